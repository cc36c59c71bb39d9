/- Ty TA TB TC -/
import Derived.Test.YtelmjodchophjaaGreatDoorProg
import Derived.Test.YtelmjodchophjaaGreatDoorG
import Derived.KernelRfl
import Derived.Shelf.Strings.BuilderK
import Derived.WalkKit
import Derived.Shelf.Strings.Builder1
import Derived.Shelf.Small.Strs
import Derived.Shelf.Strings.BuilderF
import Derived.Shelf.Strconv.Atoi
import Derived.Shelf.Strconv.Itoa0
import Derived.Shelf.Strconv.Itoa1
import Derived.Shelf.LaysM
import Derived.Shelf.Strconv.Itoa2
import Derived.Shelf.Strconv.Itoa3
import Derived.Shelf.Strconv.AtoiErrFast
import Derived.Shelf.Strconv.ParseIntEmpty
import Derived.Shelf.Strconv.AtoiFail
import Derived.Shelf.Strconv.Clone
import Derived.Shelf.Strconv.SyntaxError
import Derived.Shelf.LaysC
import Derived.Shelf.Strconv.ToError
import Derived.Shelf.Strconv.Lower
import Derived.Shelf.Strconv.ParseUint10
import Derived.Shelf.Strconv.ParseUint10Empty
import Derived.Shelf.Strconv.ParseUint10Any
import Derived.Shelf.Strconv.ParseInt10
import Derived.Shelf.Strconv.AtoiLong
import Derived.Shelf.Strconv.AtoiInnerAll
import Derived.Shelf.Strconv.RangeError
import Derived.Shelf.Strconv.ToErrorRange
import Derived.Shelf.Strconv.AtoiAll
import Derived.Shelf.Strconv.ErrVarAll
import Derived.Shelf.Strings.Search1
import Derived.Shelf.Strings.Search2
import Derived.Shelf.Strings.Search3
import Derived.Shelf.Strings.Count
import Derived.Shelf.Strings.Prefix
import Derived.Deep.LoopGhost
import Derived.Deep.RegionHeld3
import Derived.Deep.DrawnRows
import Derived.StillTactics
import Derived.WalkSpells
import Derived.Lib.LaidTab
set_option linter.unusedVariables false
set_option linter.unusedSimpArgs false
section
/- What the program says of its functions and types. -/
namespace Go.Dust
open Go.Proofs
noncomputable abbrev X : Env := env Tryz.prog
set_option maxRecDepth 100000
theorem fn_2 : X.fn 2 = some Tryz.f2 := fn_at Tryz.func2 (by kernel_rfl)
theorem fn_3 : X.fn 3 = some Tryz.f3 := fn_at Tryz.func3 (by kernel_rfl)
theorem len_22 (H : Look) (a : Option Addr) (n c : Nat) : lenOfA X H 22 (.slice a n c) = some (.int .i64 n) := by kernel_rfl
theorem fn_4 : X.fn 4 = some Tryz.f4 := fn_at Tryz.func4 (by kernel_rfl)
theorem cv_5_3 (k : IntKind) (x : Int) : convertA X 5 3 (.int k x) = some (.int .i64 (IntKind.wrap .i64 x)) := by kernel_rfl
theorem fn_5 : X.fn 5 = some Tryz.f5 := fn_at Tryz.func5 (by kernel_rfl)
theorem al_35 (nm : Nat) (ρ : Operand → Value) : allocA X nm ρ (.alloc 35) = some (.pointer (some ⟨nm, 0, none⟩), fun v => .cells (PT.ofList [.pointer none, .slice none 0 0]) [] 2 35 false false v) := by kernel_rfl
theorem ix_22 (b off n c : Nat) (k : IntKind) (i : Int) : indexAddrA X 22 (.slice (some ⟨b, off, none⟩) n c) (.int k i) = if 0 ≤ i ∧ i < (n : Int) then some (.pointer (some ((⟨b, off, none⟩ : Addr).add (i.toNat * 3)))) else none := by kernel_rfl
theorem ld_37 (H : Look) (a : Addr) : loadT X H 37 a = (match loadN H a 3 with | some l => some (.agg l.toArray) | none => none) := by kernel_rfl
theorem al_37 (nm : Nat) (ρ : Operand → Value) : allocA X nm ρ (.alloc 37) = some (.pointer (some ⟨nm, 0, none⟩), fun v => .cells (PT.ofList [.int .i64 0, .int .i64 0, .int .i64 0]) [] 3 37 false false v) := by kernel_rfl
theorem st_37 (s : St) (a : Addr) (v : Value) : storeT X s 37 a v = if v.cells.size = 3 then storeN s a v.cells.toList else none := by kernel_rfl
theorem fa_37_0 (b off : Nat) : fieldAddrA X 37 (.pointer (some ⟨b, off, none⟩)) 0 = some (.pointer (some ⟨b, off, none⟩)) := by kernel_rfl
theorem ld_3 (H : Look) (a : Addr) : loadT X H 3 a = load1 H a := by kernel_rfl
theorem ix_42 (b off : Nat) (k : IntKind) (i : Int) : indexAddrA X 42 (.pointer (some ⟨b, off, none⟩)) (.int k i) = if 0 ≤ i ∧ i < ((12 : Nat) : Int) then some (.pointer (some ((⟨b, off, none⟩ : Addr).add (i.toNat * 1)))) else none := by kernel_rfl
theorem ld_9 (H : Look) (a : Addr) : loadT X H 9 a = load1 H a := by kernel_rfl
theorem fa_37_1 (b off : Nat) : fieldAddrA X 37 (.pointer (some ⟨b, off, none⟩)) 1 = some (.pointer (some ⟨b, off + 1, none⟩)) := by kernel_rfl
theorem fa_37_2 (b off : Nat) : fieldAddrA X 37 (.pointer (some ⟨b, off, none⟩)) 2 = some (.pointer (some ⟨b, off + 2, none⟩)) := by kernel_rfl
theorem fn_6 : X.fn 6 = some Tryz.f6 := fn_at Tryz.func6 (by kernel_rfl)
theorem len_45 (H : Look) (a : Option Addr) (n c : Nat) : lenOfA X H 45 (.slice a n c) = some (.int .i64 n) := by kernel_rfl
theorem ix_45 (b off n c : Nat) (k : IntKind) (i : Int) : indexAddrA X 45 (.slice (some ⟨b, off, none⟩) n c) (.int k i) = if 0 ≤ i ∧ i < (n : Int) then some (.pointer (some ((⟨b, off, none⟩ : Addr).add (i.toNat * 1)))) else none := by kernel_rfl
theorem fn_7 : X.fn 7 = some Tryz.f7 := fn_at Tryz.func7 (by kernel_rfl)
theorem eqP_47 (H : Look) (a : Addr) : binop X H .eql 47 (.pointer (some a)) (.pointer none) = some (.bool false) := by kernel_rfl
theorem eqN_47 (H : Look) : binop X H .eql 47 (.pointer none) (.pointer none) = some (.bool true) := by kernel_rfl
theorem eqP_50 (H : Look) (a : Addr) : binop X H .eql 50 (.pointer (some a)) (.pointer none) = some (.bool false) := by kernel_rfl
theorem eqN_50 (H : Look) : binop X H .eql 50 (.pointer none) (.pointer none) = some (.bool true) := by kernel_rfl
theorem bd_57_0_1  (x0 : Int) (x1 : Int) : buildA X 57 [(0, Value.int .i64 x0), (1, Value.int .i64 x1)] = some (.agg #[.int .i64 x0, .int .i64 x1, .int .i64 0]) := by kernel_rfl
theorem bd_57_  : buildA X 57 [] = some (.agg #[.int .i64 0, .int .i64 0, .int .i64 0]) := by kernel_rfl
theorem bd_37_0_1  (x0 : Int) (x1 : Int) : buildA X 37 [(0, Value.int .i64 x0), (1, Value.int .i64 x1)] = some (.agg #[.int .i64 x0, .int .i64 x1, .int .i64 0]) := by kernel_rfl
theorem bd_37_0_1_2  (x0 : Int) (x1 : Int) (x2 : Int) : buildA X 37 [(0, Value.int .i64 x0), (1, Value.int .i64 x1), (2, Value.int .i64 x2)] = some (.agg #[.int .i64 x0, .int .i64 x1, .int .i64 x2]) := by kernel_rfl
theorem bs_22_2_0_1 (nm : Nat) (x0_0 : Int) (x0_1 : Int) (x0_2 : Int) (x1_0 : Int) (x1_1 : Int) (x1_2 : Int) : bsA X nm 22 2 [(0, Value.agg #[.int .i64 x0_0, .int .i64 x0_1, .int .i64 x0_2]), (1, Value.agg #[.int .i64 x1_0, .int .i64 x1_1, .int .i64 x1_2])] = some (.slice (some ⟨nm, 0, none⟩) 2 2, fun v => .cells (PT.ofList [.int .i64 x0_0, .int .i64 x0_1, .int .i64 x0_2, .int .i64 x1_0, .int .i64 x1_1, .int .i64 x1_2]) [] 6 37 false false v) := by kernel_rfl
theorem fn_8 : X.fn 8 = some Tryz.f8 := fn_at Tryz.func8 (by kernel_rfl)
theorem al_22 (nm : Nat) (ρ : Operand → Value) : allocA X nm ρ (.alloc 22) = some (.pointer (some ⟨nm, 0, none⟩), fun v => .cells (PT.ofList [.slice none 0 0]) [] 1 22 false false v) := by kernel_rfl
theorem al_23 (nm : Nat) (ρ : Operand → Value) : allocA X nm ρ (.alloc 23) = some (.pointer (some ⟨nm, 0, none⟩), fun v => .cells (PT.ofList [.int .i64 0]) [] 1 23 false false v) := by kernel_rfl
theorem st_22 (s : St) (a : Addr) (v : Value) : storeT X s 22 a v = if v.cells.size = 1 then storeN s a v.cells.toList else none := by kernel_rfl
theorem st_23 (s : St) (a : Addr) (v : Value) : storeT X s 23 a v = if v.cells.size = 1 then storeN s a v.cells.toList else none := by kernel_rfl
theorem ld_22 (H : Look) (a : Addr) : loadT X H 22 a = load1 H a := by kernel_rfl
theorem bs_22_1_0 (nm : Nat) (x0_0 : Int) (x0_1 : Int) (x0_2 : Int) : bsA X nm 22 1 [(0, Value.agg #[.int .i64 x0_0, .int .i64 x0_1, .int .i64 x0_2])] = some (.slice (some ⟨nm, 0, none⟩) 1 1, fun v => .cells (PT.ofList [.int .i64 x0_0, .int .i64 x0_1, .int .i64 x0_2]) [] 3 37 false false v) := by kernel_rfl
theorem ld_23 (H : Look) (a : Addr) : loadT X H 23 a = load1 H a := by kernel_rfl
theorem fn_9 : X.fn 9 = some Tryz.f9 := fn_at Tryz.func9 (by kernel_rfl)
theorem eqS_37 (H : Look) (x_0 : Int) (x_1 : Int) (x_2 : Int) (y_0 : Int) (y_1 : Int) (y_2 : Int) : eqAt X H 10 37 (.agg #[.int .i64 x_0, .int .i64 x_1, .int .i64 x_2]) (.agg #[.int .i64 y_0, .int .i64 y_1, .int .i64 y_2]) = (match some (x_0 == y_0) with | some true => (match some (x_1 == y_1) with | some true => (match some (x_2 == y_2) with | some true => some true | some false => some false | none => none : Option Bool) | some false => some false | none => none : Option Bool) | some false => some false | none => none : Option Bool) := by kernel_rfl
theorem nee_37 (H : Look) (x_0 : Int) (x_1 : Int) (x_2 : Int) (y_0 : Int) (y_1 : Int) (y_2 : Int) : binop X H .neq 37 (.agg #[.int .i64 x_0, .int .i64 x_1, .int .i64 x_2]) (.agg #[.int .i64 y_0, .int .i64 y_1, .int .i64 y_2]) = some (.bool !(x_0 == y_0 && x_1 == y_1 && x_2 == y_2)) := by
  rw [show ∀ u v, binop X H .neq 37 (.agg u) (.agg v) = (match eqAt X H 10 37 (.agg u) (.agg v) with | some b => some (.bool !b) | none => none) from fun _ _ => rfl, eqS_37]
  cases (x_0 == y_0) <;> cases (x_1 == y_1) <;> cases (x_2 == y_2) <;> rfl
theorem fn_10 : X.fn 10 = some Tryz.f10 := fn_at Tryz.func10 (by kernel_rfl)
theorem bs_22_0_ (nm : Nat) : bsA X nm 22 0 [] = some (.slice (some ⟨nm, 0, none⟩) 0 0, fun v => .cells (PT.ofList []) [] 0 37 false false v) := by kernel_rfl
theorem bd_37_0  (x0 : Int) : buildA X 37 [(0, Value.int .i64 x0)] = some (.agg #[.int .i64 x0, .int .i64 0, .int .i64 0]) := by kernel_rfl
theorem st_3 (s : St) (a : Addr) (v : Value) : storeT X s 3 a v = if v.cells.size = 1 then storeN s a v.cells.toList else none := by kernel_rfl
theorem fn_11 : X.fn 11 = some Tryz.f11 := fn_at Tryz.func11 (by kernel_rfl)
theorem fa_35_1 (b off : Nat) : fieldAddrA X 35 (.pointer (some ⟨b, off, none⟩)) 1 = some (.pointer (some ⟨b, off + 1, none⟩)) := by kernel_rfl
theorem ld_33 (H : Look) (a : Addr) : loadT X H 33 a = load1 H a := by kernel_rfl
theorem st_33 (s : St) (a : Addr) (v : Value) : storeT X s 33 a v = if v.cells.size = 1 then storeN s a v.cells.toList else none := by kernel_rfl
theorem fn_12 : X.fn 12 = some Tryz.f12 := fn_at Tryz.func12 (by kernel_rfl)
theorem fn_13 : X.fn 13 = some Tryz.f13 := fn_at Tryz.func13 (by kernel_rfl)
theorem len_33 (H : Look) (a : Option Addr) (n c : Nat) : lenOfA X H 33 (.slice a n c) = some (.int .i64 n) := by kernel_rfl
theorem fn_14 : X.fn 14 = some Tryz.f14 := fn_at Tryz.func14 (by kernel_rfl)
theorem fn_15 : X.fn 15 = some Tryz.f15 := fn_at Tryz.func15 (by kernel_rfl)
theorem fn_16 : X.fn 16 = some Tryz.f16 := fn_at Tryz.func16 (by kernel_rfl)
theorem mk_72 {nm : Nat} {n m : Int} (h1 : 0 ≤ n) (h2 : n ≤ m) (h3 : m < 2 ^ 40) (h4 : 16 * m ≤ 2 ^ 48) : mkA X nm 72 (.int .i64 n) (.int .i64 m) = some (.slice (some ⟨nm, 0, none⟩) n.toNat m.toNat, fun v => .cells .nil [.int .i64 0, .int .i64 0] (m.toNat * 2) 84 false false v) := mkA_of (z := .agg #[.int .i64 0, .int .i64 0]) (by kernel_rfl) (by kernel_rfl) rfl h1 h2 h3 h4
theorem mk_73 {nm : Nat} {n m : Int} (h1 : 0 ≤ n) (h2 : n ≤ m) (h3 : m < 2 ^ 40) (h4 : 8 * m ≤ 2 ^ 48) : mkA X nm 73 (.int .i64 n) (.int .i64 m) = some (.slice (some ⟨nm, 0, none⟩) n.toNat m.toNat, fun v => .cells .nil [.int .i64 0] (m.toNat * 1) 3 false false v) := mkA_of (z := .int .i64 0) (by kernel_rfl) (by kernel_rfl) rfl h1 h2 h3 h4
theorem mm_74 (nm : Nat) : mmA X nm 74 none = some (.map (some nm), fun v => .map [] 0 v) := by kernel_rfl
theorem bd_77_0_1_4_5  (x0 : Option Addr) (x0n x0c : Nat) (x1 : Option Addr) (x1n x1c : Nat) (x4 : Option Nat) (x5 : Option Nat) : buildA X 77 [(0, Value.slice x0 x0n x0c), (1, Value.slice x1 x1n x1c), (4, Value.map x4), (5, Value.map x5)] = some (.agg #[.slice x0 x0n x0c, .slice x1 x1n x1c, .pointer none, .pointer none, .map x4, .map x5, .int .i64 0]) := by kernel_rfl
theorem fa_77_1 (b off : Nat) : fieldAddrA X 77 (.pointer (some ⟨b, off, none⟩)) 1 = some (.pointer (some ⟨b, off + 1, none⟩)) := by kernel_rfl
theorem ld_73 (H : Look) (a : Addr) : loadT X H 73 a = load1 H a := by kernel_rfl
theorem len_73 (H : Look) (a : Option Addr) (n c : Nat) : lenOfA X H 73 (.slice a n c) = some (.int .i64 n) := by kernel_rfl
theorem fa_77_2 (b off : Nat) : fieldAddrA X 77 (.pointer (some ⟨b, off, none⟩)) 2 = some (.pointer (some ⟨b, off + 2, none⟩)) := by kernel_rfl
theorem st_75 (s : St) (a : Addr) (v : Value) : storeT X s 75 a v = if v.cells.size = 1 then storeN s a v.cells.toList else none := by kernel_rfl
theorem fa_77_3 (b off : Nat) : fieldAddrA X 77 (.pointer (some ⟨b, off, none⟩)) 3 = some (.pointer (some ⟨b, off + 3, none⟩)) := by kernel_rfl
theorem fn_17 : X.fn 17 = some Tryz.f17 := fn_at Tryz.func17 (by kernel_rfl)
theorem bd_81_0_1_2_3  (x0 : Int) (x1 : Option Addr) (x1n x1c : Nat) (x2 : Option Addr) (x2n x2c : Nat) (x3 : Option Addr) (x3n x3c : Nat) : buildA X 81 [(0, Value.int .i64 x0), (1, Value.slice x1 x1n x1c), (2, Value.slice x2 x2n x2c), (3, Value.slice x3 x3n x3c)] = some (.agg #[.int .i64 x0, .slice x1 x1n x1c, .slice x2 x2n x2c, .slice x3 x3n x3c]) := by kernel_rfl
theorem fn_18 : X.fn 18 = some Tryz.f18 := fn_at Tryz.func18 (by kernel_rfl)
theorem bd_84_0_1  (x0 : Int) (x1 : Int) : buildA X 84 [(0, Value.int .i64 x0), (1, Value.int .i64 x1)] = some (.agg #[.int .i64 x0, .int .i64 x1]) := by kernel_rfl
theorem bd_84_  : buildA X 84 [] = some (.agg #[.int .i64 0, .int .i64 0]) := by kernel_rfl
theorem fn_19 : X.fn 19 = some Tryz.f19 := fn_at Tryz.func19 (by kernel_rfl)
theorem ld_57 (H : Look) (a : Addr) : loadT X H 57 a = (match loadN H a 3 with | some l => some (.agg l.toArray) | none => none) := by kernel_rfl
theorem fa_77_6 (b off : Nat) : fieldAddrA X 77 (.pointer (some ⟨b, off, none⟩)) 6 = some (.pointer (some ⟨b, off + 6, none⟩)) := by kernel_rfl
theorem ix_73 (b off n c : Nat) (k : IntKind) (i : Int) : indexAddrA X 73 (.slice (some ⟨b, off, none⟩) n c) (.int k i) = if 0 ≤ i ∧ i < (n : Int) then some (.pointer (some ((⟨b, off, none⟩ : Addr).add (i.toNat * 1)))) else none := by kernel_rfl
theorem ld_75 (H : Look) (a : Addr) : loadT X H 75 a = load1 H a := by kernel_rfl
theorem fa_77_4 (b off : Nat) : fieldAddrA X 77 (.pointer (some ⟨b, off, none⟩)) 4 = some (.pointer (some ⟨b, off + 4, none⟩)) := by kernel_rfl
theorem ld_74 (H : Look) (a : Addr) : loadT X H 74 a = load1 H a := by kernel_rfl
theorem mp_74 (s : St) (r : Nat) (x : Int) (v : Value) : mapPut X s 74 (.map (some r)) (.int .i64 x) v = (match s.heap.get r with
    | some (.map es c _) => (match findE (.int .i64 x) es 0 with
      | some (some (i, _)) => some (s.put r fun ver => .map (es.modify i fun e => ⟨.int .i64 x, v, e.born⟩) c ver)
      | some none => some (s.put r fun ver => .map (es ++ [⟨.int .i64 x, v, c⟩]) (c + 1) ver)
      | none => none)
    | _ => none) := by kernel_rfl
theorem fn_20 : X.fn 20 = some Tryz.f20 := fn_at Tryz.func20 (by kernel_rfl)
theorem al_57 (nm : Nat) (ρ : Operand → Value) : allocA X nm ρ (.alloc 57) = some (.pointer (some ⟨nm, 0, none⟩), fun v => .cells (PT.ofList [.int .i64 0, .int .i64 0, .int .i64 0]) [] 3 57 false false v) := by kernel_rfl
theorem st_57 (s : St) (a : Addr) (v : Value) : storeT X s 57 a v = if v.cells.size = 3 then storeN s a v.cells.toList else none := by kernel_rfl
theorem fa_57_0 (b off : Nat) : fieldAddrA X 57 (.pointer (some ⟨b, off, none⟩)) 0 = some (.pointer (some ⟨b, off, none⟩)) := by kernel_rfl
theorem fa_57_1 (b off : Nat) : fieldAddrA X 57 (.pointer (some ⟨b, off, none⟩)) 1 = some (.pointer (some ⟨b, off + 1, none⟩)) := by kernel_rfl
theorem fn_21 : X.fn 21 = some Tryz.f21 := fn_at Tryz.func21 (by kernel_rfl)
theorem al_91 (nm : Nat) (ρ : Operand → Value) : allocA X nm ρ (.alloc 91) = some (.pointer (some ⟨nm, 0, none⟩), fun v => .cells (PT.ofList [.slice none 0 0]) [] 1 91 false false v) := by kernel_rfl
theorem ld_91 (H : Look) (a : Addr) : loadT X H 91 a = load1 H a := by kernel_rfl
theorem fn_22 : X.fn 22 = some Tryz.f22 := fn_at Tryz.func22 (by kernel_rfl)
theorem len_98 (H : Look) (a : Option Addr) (n c : Nat) : lenOfA X H 98 (.slice a n c) = some (.int .i64 n) := by kernel_rfl
theorem ix_98 (b off n c : Nat) (k : IntKind) (i : Int) : indexAddrA X 98 (.slice (some ⟨b, off, none⟩) n c) (.int k i) = if 0 ≤ i ∧ i < (n : Int) then some (.pointer (some ((⟨b, off, none⟩ : Addr).add (i.toNat * 3)))) else none := by kernel_rfl
theorem ld_101 (H : Look) (a : Addr) : loadT X H 101 a = (match loadN H a 3 with | some l => some (.agg l.toArray) | none => none) := by kernel_rfl
theorem al_101 (nm : Nat) (ρ : Operand → Value) : allocA X nm ρ (.alloc 101) = some (.pointer (some ⟨nm, 0, none⟩), fun v => .cells (PT.ofList [.int .i64 0, .int .i64 0, .int .i64 0]) [] 3 101 false false v) := by kernel_rfl
theorem st_101 (s : St) (a : Addr) (v : Value) : storeT X s 101 a v = if v.cells.size = 3 then storeN s a v.cells.toList else none := by kernel_rfl
theorem fa_101_0 (b off : Nat) : fieldAddrA X 101 (.pointer (some ⟨b, off, none⟩)) 0 = some (.pointer (some ⟨b, off, none⟩)) := by kernel_rfl
theorem fn_23 : X.fn 23 = some Tryz.f23 := fn_at Tryz.func23 (by kernel_rfl)
theorem fn_24 : X.fn 24 = some Tryz.f24 := fn_at Tryz.func24 (by kernel_rfl)
theorem fn_25 : X.fn 25 = some Tryz.f25 := fn_at Tryz.func25 (by kernel_rfl)
theorem fn_26 : X.fn 26 = some Tryz.f26 := fn_at Tryz.func26 (by kernel_rfl)
theorem fn_27 : X.fn 27 = some Tryz.f27 := fn_at Tryz.func27 (by kernel_rfl)
theorem fn_28 : X.fn 28 = some Tryz.f28 := fn_at Tryz.func28 (by kernel_rfl)
theorem fn_29 : X.fn 29 = some Tryz.f29 := fn_at Tryz.func29 (by kernel_rfl)
theorem fn_30 : X.fn 30 = some Tryz.f30 := fn_at Tryz.func30 (by kernel_rfl)
theorem bs_45_0_ (nm : Nat) : bsA X nm 45 0 [] = some (.slice (some ⟨nm, 0, none⟩) 0 0, fun v => .cells (PT.ofList []) [] 0 9 false false v) := by kernel_rfl
theorem bs_45_1_0 (nm : Nat) (x0 : ByteArray) : bsA X nm 45 1 [(0, Value.string x0)] = some (.slice (some ⟨nm, 0, none⟩) 1 1, fun v => .cells (PT.ofList [.string x0]) [] 1 9 false false v) := by kernel_rfl
theorem fn_31 : X.fn 31 = some Tryz.f31 := fn_at Tryz.func31 (by kernel_rfl)
theorem fn_32 : X.fn 32 = some Tryz.f32 := fn_at Tryz.func32 (by kernel_rfl)
theorem fa_35_0 (b off : Nat) : fieldAddrA X 35 (.pointer (some ⟨b, off, none⟩)) 0 = some (.pointer (some ⟨b, off, none⟩)) := by kernel_rfl
theorem ld_32 (H : Look) (a : Addr) : loadT X H 32 a = load1 H a := by kernel_rfl
theorem eqP_32 (H : Look) (a : Addr) : binop X H .eql 32 (.pointer (some a)) (.pointer none) = some (.bool false) := by kernel_rfl
theorem eqN_32 (H : Look) : binop X H .eql 32 (.pointer none) (.pointer none) = some (.bool true) := by kernel_rfl
theorem st_32 (s : St) (a : Addr) (v : Value) : storeT X s 32 a v = if v.cells.size = 1 then storeN s a v.cells.toList else none := by kernel_rfl
theorem neP_32 (H : Look) (a : Addr) : binop X H .neq 32 (.pointer (some a)) (.pointer none) = some (.bool true) := by kernel_rfl
theorem neN_32 (H : Look) : binop X H .neq 32 (.pointer none) (.pointer none) = some (.bool false) := by kernel_rfl
theorem fn_33 : X.fn 33 = some Tryz.f33 := fn_at Tryz.func33 (by kernel_rfl)
theorem fn_34 : X.fn 34 = some Tryz.f34 := fn_at Tryz.func34 (by kernel_rfl)
theorem bs_73_4_0c1_1c2_2c4_3c8 (nm : Nat) : bsA X nm 73 4 [(0, Value.int .i64 1), (1, Value.int .i64 2), (2, Value.int .i64 4), (3, Value.int .i64 8)] = some (.slice (some ⟨nm, 0, none⟩) 4 4, fun v => .cells (PT.ofList [.int .i64 1, .int .i64 2, .int .i64 4, .int .i64 8]) [] 4 3 false false v) := by kernel_rfl
theorem mk_116 {nm : Nat} {n m : Int} (h1 : 0 ≤ n) (h2 : n ≤ m) (h3 : m < 2 ^ 40) (h4 : 8 * m ≤ 2 ^ 48) : mkA X nm 116 (.int .i64 n) (.int .i64 m) = some (.slice (some ⟨nm, 0, none⟩) n.toNat m.toNat, fun v => .cells .nil [.int .u64 0] (m.toNat * 1) 149 false false v) := mkA_of (z := .int .u64 0) (by kernel_rfl) (by kernel_rfl) rfl h1 h2 h3 h4
theorem bd_118_0_1_2  (x0 : Int) (x1 : Int) (x2 : Option Addr) (x2n x2c : Nat) : buildA X 118 [(0, Value.int .i64 x0), (1, Value.int .i64 x1), (2, Value.slice x2 x2n x2c)] = some (.agg #[.int .i64 x0, .int .i64 x1, .slice x2 x2n x2c]) := by kernel_rfl
theorem fn_35 : X.fn 35 = some Tryz.f35 := fn_at Tryz.func35 (by kernel_rfl)
theorem fa_77_0 (b off : Nat) : fieldAddrA X 77 (.pointer (some ⟨b, off, none⟩)) 0 = some (.pointer (some ⟨b, off, none⟩)) := by kernel_rfl
theorem ld_72 (H : Look) (a : Addr) : loadT X H 72 a = load1 H a := by kernel_rfl
theorem len_72 (H : Look) (a : Option Addr) (n c : Nat) : lenOfA X H 72 (.slice a n c) = some (.int .i64 n) := by kernel_rfl
theorem fa_84_1 (b off : Nat) : fieldAddrA X 84 (.pointer (some ⟨b, off, none⟩)) 1 = some (.pointer (some ⟨b, off + 1, none⟩)) := by kernel_rfl
theorem ld_84 (H : Look) (a : Addr) : loadT X H 84 a = (match loadN H a 2 with | some l => some (.agg l.toArray) | none => none) := by kernel_rfl
theorem ix_72 (b off n c : Nat) (k : IntKind) (i : Int) : indexAddrA X 72 (.slice (some ⟨b, off, none⟩) n c) (.int k i) = if 0 ≤ i ∧ i < (n : Int) then some (.pointer (some ((⟨b, off, none⟩ : Addr).add (i.toNat * 2)))) else none := by kernel_rfl
theorem st_84 (s : St) (a : Addr) (v : Value) : storeT X s 84 a v = if v.cells.size = 2 then storeN s a v.cells.toList else none := by kernel_rfl
theorem fn_36 : X.fn 36 = some Tryz.f36 := fn_at Tryz.func36 (by kernel_rfl)
theorem neP_47 (H : Look) (a : Addr) : binop X H .neq 47 (.pointer (some a)) (.pointer none) = some (.bool true) := by kernel_rfl
theorem neN_47 (H : Look) : binop X H .neq 47 (.pointer none) (.pointer none) = some (.bool false) := by kernel_rfl
theorem fn_37 : X.fn 37 = some Tryz.f37 := fn_at Tryz.func37 (by kernel_rfl)
theorem fa_57_2 (b off : Nat) : fieldAddrA X 57 (.pointer (some ⟨b, off, none⟩)) 2 = some (.pointer (some ⟨b, off + 2, none⟩)) := by kernel_rfl
theorem fn_38 : X.fn 38 = some Tryz.f38 := fn_at Tryz.func38 (by kernel_rfl)
theorem fa_84_0 (b off : Nat) : fieldAddrA X 84 (.pointer (some ⟨b, off, none⟩)) 0 = some (.pointer (some ⟨b, off, none⟩)) := by kernel_rfl
theorem fn_39 : X.fn 39 = some Tryz.f39 := fn_at Tryz.func39 (by kernel_rfl)
theorem fn_40 : X.fn 40 = some Tryz.f40 := fn_at Tryz.func40 (by kernel_rfl)
theorem fn_41 : X.fn 41 = some Tryz.f41 := fn_at Tryz.func41 (by kernel_rfl)
theorem bs_73_1_0 (nm : Nat) (x0 : Int) : bsA X nm 73 1 [(0, Value.int .i64 x0)] = some (.slice (some ⟨nm, 0, none⟩) 1 1, fun v => .cells (PT.ofList [.int .i64 x0]) [] 1 3 false false v) := by kernel_rfl
theorem fn_42 : X.fn 42 = some Tryz.f42 := fn_at Tryz.func42 (by kernel_rfl)
theorem fn_43 : X.fn 43 = some Tryz.f43 := fn_at Tryz.func43 (by kernel_rfl)
theorem fn_44 : X.fn 44 = some Tryz.f44 := fn_at Tryz.func44 (by kernel_rfl)
theorem bd_57_0_1_2  (x0 : Int) (x1 : Int) (x2 : Int) : buildA X 57 [(0, Value.int .i64 x0), (1, Value.int .i64 x1), (2, Value.int .i64 x2)] = some (.agg #[.int .i64 x0, .int .i64 x1, .int .i64 x2]) := by kernel_rfl
theorem fn_45 : X.fn 45 = some Tryz.f45 := fn_at Tryz.func45 (by kernel_rfl)
theorem fn_46 : X.fn 46 = some Tryz.f46 := fn_at Tryz.func46 (by kernel_rfl)
theorem fn_47 : X.fn 47 = some Tryz.f47 := fn_at Tryz.func47 (by kernel_rfl)
theorem fn_48 : X.fn 48 = some Tryz.f48 := fn_at Tryz.func48 (by kernel_rfl)
theorem fn_49 : X.fn 49 = some Tryz.f49 := fn_at Tryz.func49 (by kernel_rfl)
theorem bs_91_1_0 (nm : Nat) (x0_0 : Int) (x0_1 : Int) (x0_2 : Int) : bsA X nm 91 1 [(0, Value.agg #[.int .i64 x0_0, .int .i64 x0_1, .int .i64 x0_2])] = some (.slice (some ⟨nm, 0, none⟩) 1 1, fun v => .cells (PT.ofList [.int .i64 x0_0, .int .i64 x0_1, .int .i64 x0_2]) [] 3 37 false false v) := by kernel_rfl
theorem st_91 (s : St) (a : Addr) (v : Value) : storeT X s 91 a v = if v.cells.size = 1 then storeN s a v.cells.toList else none := by kernel_rfl
theorem fn_50 : X.fn 50 = some Tryz.f50 := fn_at Tryz.func50 (by kernel_rfl)
theorem fn_51 : X.fn 51 = some Tryz.f51 := fn_at Tryz.func51 (by kernel_rfl)
theorem fn_52 : X.fn 52 = some Tryz.f52 := fn_at Tryz.func52 (by kernel_rfl)
theorem fn_53 : X.fn 53 = some Tryz.f53 := fn_at Tryz.func53 (by kernel_rfl)
theorem al_98 (nm : Nat) (ρ : Operand → Value) : allocA X nm ρ (.alloc 98) = some (.pointer (some ⟨nm, 0, none⟩), fun v => .cells (PT.ofList [.slice none 0 0]) [] 1 98 false false v) := by kernel_rfl
theorem ld_98 (H : Look) (a : Addr) : loadT X H 98 a = load1 H a := by kernel_rfl
theorem bs_98_1_0 (nm : Nat) (x0_0 : Int) (x0_1 : Int) (x0_2 : Int) : bsA X nm 98 1 [(0, Value.agg #[.int .i64 x0_0, .int .i64 x0_1, .int .i64 x0_2])] = some (.slice (some ⟨nm, 0, none⟩) 1 1, fun v => .cells (PT.ofList [.int .i64 x0_0, .int .i64 x0_1, .int .i64 x0_2]) [] 3 101 false false v) := by kernel_rfl
theorem st_98 (s : St) (a : Addr) (v : Value) : storeT X s 98 a v = if v.cells.size = 1 then storeN s a v.cells.toList else none := by kernel_rfl
theorem fn_54 : X.fn 54 = some Tryz.f54 := fn_at Tryz.func54 (by kernel_rfl)
theorem fn_55 : X.fn 55 = some Tryz.f55 := fn_at Tryz.func55 (by kernel_rfl)
theorem fn_56 : X.fn 56 = some Tryz.f56 := fn_at Tryz.func56 (by kernel_rfl)
theorem fn_57 : X.fn 57 = some Tryz.f57 := fn_at Tryz.func57 (by kernel_rfl)
theorem fa_81_3 (b off : Nat) : fieldAddrA X 81 (.pointer (some ⟨b, off, none⟩)) 3 = some (.pointer (some ⟨b, off + 3, none⟩)) := by kernel_rfl
theorem fn_58 : X.fn 58 = some Tryz.f58 := fn_at Tryz.func58 (by kernel_rfl)
theorem st_73 (s : St) (a : Addr) (v : Value) : storeT X s 73 a v = if v.cells.size = 1 then storeN s a v.cells.toList else none := by kernel_rfl
theorem fn_59 : X.fn 59 = some Tryz.f59 := fn_at Tryz.func59 (by kernel_rfl)
theorem fn_60 : X.fn 60 = some Tryz.f60 := fn_at Tryz.func60 (by kernel_rfl)
theorem fn_62 : X.fn 62 = some Tryz.f62 := fn_at Tryz.func62 (by kernel_rfl)
theorem fn_63 : X.fn 63 = some Tryz.f63 := fn_at Tryz.func63 (by kernel_rfl)
theorem fn_64 : X.fn 64 = some Tryz.f64 := fn_at Tryz.func64 (by kernel_rfl)
theorem st_9 (s : St) (a : Addr) (v : Value) : storeT X s 9 a v = if v.cells.size = 1 then storeN s a v.cells.toList else none := by kernel_rfl
theorem fn_65 : X.fn 65 = some Tryz.f65 := fn_at Tryz.func65 (by kernel_rfl)
theorem fn_66 : X.fn 66 = some Tryz.f66 := fn_at Tryz.func66 (by kernel_rfl)
theorem mk_45 {nm : Nat} {n m : Int} (h1 : 0 ≤ n) (h2 : n ≤ m) (h3 : m < 2 ^ 40) (h4 : 16 * m ≤ 2 ^ 48) : mkA X nm 45 (.int .i64 n) (.int .i64 m) = some (.slice (some ⟨nm, 0, none⟩) n.toNat m.toNat, fun v => .cells .nil [.string ⟨#[]⟩] (m.toNat * 1) 9 false false v) := mkA_of (z := .string ⟨#[]⟩) (by kernel_rfl) (by kernel_rfl) rfl h1 h2 h3 h4
theorem fn_67 : X.fn 67 = some Tryz.f67 := fn_at Tryz.func67 (by kernel_rfl)
theorem fn_68 : X.fn 68 = some Tryz.f68 := fn_at Tryz.func68 (by kernel_rfl)
theorem ix_33 (b off n c : Nat) (k : IntKind) (i : Int) : indexAddrA X 33 (.slice (some ⟨b, off, none⟩) n c) (.int k i) = if 0 ≤ i ∧ i < (n : Int) then some (.pointer (some ((⟨b, off, none⟩ : Addr).add (i.toNat * 1)))) else none := by kernel_rfl
theorem ld_5 (H : Look) (a : Addr) : loadT X H 5 a = load1 H a := by kernel_rfl
theorem fn_69 : X.fn 69 = some Tryz.f69 := fn_at Tryz.func69 (by kernel_rfl)
theorem fn_71 : X.fn 71 = some Tryz.f71 := fn_at Tryz.func71 (by kernel_rfl)
theorem al_148 (nm : Nat) (ρ : Operand → Value) : allocA X nm ρ (.alloc 148) = some (.pointer (some ⟨nm, 0, none⟩), fun v => .cells (PT.ofList [.int .u8 0, .int .u8 0, .int .u8 0, .int .u8 0, .int .u8 0, .int .u8 0, .int .u8 0, .int .u8 0, .int .u8 0, .int .u8 0, .int .u8 0, .int .u8 0, .int .u8 0, .int .u8 0, .int .u8 0, .int .u8 0, .int .u8 0, .int .u8 0, .int .u8 0, .int .u8 0, .int .u8 0, .int .u8 0, .int .u8 0, .int .u8 0]) [] 24 148 false false v) := by kernel_rfl
theorem cv_2_149 (k : IntKind) (x : Int) : convertA X 2 149 (.int k x) = some (.int .u64 (IntKind.wrap .u64 x)) := by kernel_rfl
theorem ix_148 (b off : Nat) (k : IntKind) (i : Int) : indexAddrA X 148 (.pointer (some ⟨b, off, none⟩)) (.int k i) = if 0 ≤ i ∧ i < ((24 : Nat) : Int) then some (.pointer (some ((⟨b, off, none⟩ : Addr).add (i.toNat * 1)))) else none := by kernel_rfl
theorem st_5 (s : St) (a : Addr) (v : Value) : storeT X s 5 a v = if v.cells.size = 1 then storeN s a v.cells.toList else none := by kernel_rfl
theorem fn_72 : X.fn 72 = some Tryz.f72 := fn_at Tryz.func72 (by kernel_rfl)
theorem fn_73 : X.fn 73 = some Tryz.f73 := fn_at Tryz.func73 (by kernel_rfl)
theorem fn_74 : X.fn 74 = some Tryz.f74 := fn_at Tryz.func74 (by kernel_rfl)
theorem fn_75 : X.fn 75 = some Tryz.f75 := fn_at Tryz.func75 (by kernel_rfl)
theorem fn_76 : X.fn 76 = some Tryz.f76 := fn_at Tryz.func76 (by kernel_rfl)
theorem eqS_84 (H : Look) (x_0 : Int) (x_1 : Int) (y_0 : Int) (y_1 : Int) : eqAt X H 10 84 (.agg #[.int .i64 x_0, .int .i64 x_1]) (.agg #[.int .i64 y_0, .int .i64 y_1]) = (match some (x_0 == y_0) with | some true => (match some (x_1 == y_1) with | some true => some true | some false => some false | none => none : Option Bool) | some false => some false | none => none : Option Bool) := by kernel_rfl
theorem nee_84 (H : Look) (x_0 : Int) (x_1 : Int) (y_0 : Int) (y_1 : Int) : binop X H .neq 84 (.agg #[.int .i64 x_0, .int .i64 x_1]) (.agg #[.int .i64 y_0, .int .i64 y_1]) = some (.bool !(x_0 == y_0 && x_1 == y_1)) := by
  rw [show ∀ u v, binop X H .neq 84 (.agg u) (.agg v) = (match eqAt X H 10 84 (.agg u) (.agg v) with | some b => some (.bool !b) | none => none) from fun _ _ => rfl, eqS_84]
  cases (x_0 == y_0) <;> cases (x_1 == y_1) <;> rfl
theorem fn_77 : X.fn 77 = some Tryz.f77 := fn_at Tryz.func77 (by kernel_rfl)
theorem fn_78 : X.fn 78 = some Tryz.f78 := fn_at Tryz.func78 (by kernel_rfl)
theorem fn_79 : X.fn 79 = some Tryz.f79 := fn_at Tryz.func79 (by kernel_rfl)
theorem fa_118_1 (b off : Nat) : fieldAddrA X 118 (.pointer (some ⟨b, off, none⟩)) 1 = some (.pointer (some ⟨b, off + 1, none⟩)) := by kernel_rfl
theorem fa_118_2 (b off : Nat) : fieldAddrA X 118 (.pointer (some ⟨b, off, none⟩)) 2 = some (.pointer (some ⟨b, off + 2, none⟩)) := by kernel_rfl
theorem ld_116 (H : Look) (a : Addr) : loadT X H 116 a = load1 H a := by kernel_rfl
theorem ix_116 (b off n c : Nat) (k : IntKind) (i : Int) : indexAddrA X 116 (.slice (some ⟨b, off, none⟩) n c) (.int k i) = if 0 ≤ i ∧ i < (n : Int) then some (.pointer (some ((⟨b, off, none⟩ : Addr).add (i.toNat * 1)))) else none := by kernel_rfl
theorem ld_149 (H : Look) (a : Addr) : loadT X H 149 a = load1 H a := by kernel_rfl
theorem cv_3_149 (k : IntKind) (x : Int) : convertA X 3 149 (.int k x) = some (.int .u64 (IntKind.wrap .u64 x)) := by kernel_rfl
theorem st_149 (s : St) (a : Addr) (v : Value) : storeT X s 149 a v = if v.cells.size = 1 then storeN s a v.cells.toList else none := by kernel_rfl
theorem fn_80 : X.fn 80 = some Tryz.f80 := fn_at Tryz.func80 (by kernel_rfl)
theorem fa_118_0 (b off : Nat) : fieldAddrA X 118 (.pointer (some ⟨b, off, none⟩)) 0 = some (.pointer (some ⟨b, off, none⟩)) := by kernel_rfl
theorem fn_81 : X.fn 81 = some Tryz.f81 := fn_at Tryz.func81 (by kernel_rfl)
theorem fn_82 : X.fn 82 = some Tryz.f82 := fn_at Tryz.func82 (by kernel_rfl)
theorem fn_83 : X.fn 83 = some Tryz.f83 := fn_at Tryz.func83 (by kernel_rfl)
theorem fn_84 : X.fn 84 = some Tryz.f84 := fn_at Tryz.func84 (by kernel_rfl)
theorem fn_85 : X.fn 85 = some Tryz.f85 := fn_at Tryz.func85 (by kernel_rfl)
theorem len_91 (H : Look) (a : Option Addr) (n c : Nat) : lenOfA X H 91 (.slice a n c) = some (.int .i64 n) := by kernel_rfl
theorem cv_3_160 (k : IntKind) (x : Int) : convertA X 3 160 (.int k x) = some (.int .u64 (IntKind.wrap .u64 x)) := by kernel_rfl
theorem fn_86 : X.fn 86 = some Tryz.f86 := fn_at Tryz.func86 (by kernel_rfl)
theorem bs_73_3_0_1_2 (nm : Nat) (x0 : Int) (x1 : Int) (x2 : Int) : bsA X nm 73 3 [(0, Value.int .i64 x0), (1, Value.int .i64 x1), (2, Value.int .i64 x2)] = some (.slice (some ⟨nm, 0, none⟩) 3 3, fun v => .cells (PT.ofList [.int .i64 x0, .int .i64 x1, .int .i64 x2]) [] 3 3 false false v) := by kernel_rfl
theorem fn_87 : X.fn 87 = some Tryz.f87 := fn_at Tryz.func87 (by kernel_rfl)
theorem fn_88 : X.fn 88 = some Tryz.f88 := fn_at Tryz.func88 (by kernel_rfl)
theorem fn_89 : X.fn 89 = some Tryz.f89 := fn_at Tryz.func89 (by kernel_rfl)
theorem fa_81_0 (b off : Nat) : fieldAddrA X 81 (.pointer (some ⟨b, off, none⟩)) 0 = some (.pointer (some ⟨b, off, none⟩)) := by kernel_rfl
theorem fn_90 : X.fn 90 = some Tryz.f90 := fn_at Tryz.func90 (by kernel_rfl)
theorem fn_91 : X.fn 91 = some Tryz.f91 := fn_at Tryz.func91 (by kernel_rfl)
theorem neP_50 (H : Look) (a : Addr) : binop X H .neq 50 (.pointer (some a)) (.pointer none) = some (.bool true) := by kernel_rfl
theorem neN_50 (H : Look) : binop X H .neq 50 (.pointer none) (.pointer none) = some (.bool false) := by kernel_rfl
theorem fn_92 : X.fn 92 = some Tryz.f92 := fn_at Tryz.func92 (by kernel_rfl)
theorem fn_93 : X.fn 93 = some Tryz.f93 := fn_at Tryz.func93 (by kernel_rfl)
theorem eqP_137 (H : Look) (a : Addr) : binop X H .eql 137 (.pointer (some a)) (.pointer none) = some (.bool false) := by kernel_rfl
theorem eqN_137 (H : Look) : binop X H .eql 137 (.pointer none) (.pointer none) = some (.bool true) := by kernel_rfl
theorem fn_94 : X.fn 94 = some Tryz.f94 := fn_at Tryz.func94 (by kernel_rfl)
theorem fn_95 : X.fn 95 = some Tryz.f95 := fn_at Tryz.func95 (by kernel_rfl)
theorem bs_73_0_ (nm : Nat) : bsA X nm 73 0 [] = some (.slice (some ⟨nm, 0, none⟩) 0 0, fun v => .cells (PT.ofList []) [] 0 3 false false v) := by kernel_rfl
theorem fn_96 : X.fn 96 = some Tryz.f96 := fn_at Tryz.func96 (by kernel_rfl)
theorem fn_97 : X.fn 97 = some Tryz.f97 := fn_at Tryz.func97 (by kernel_rfl)
theorem fn_98 : X.fn 98 = some Tryz.f98 := fn_at Tryz.func98 (by kernel_rfl)
theorem fn_99 : X.fn 99 = some Tryz.f99 := fn_at Tryz.func99 (by kernel_rfl)
theorem cv_149_2 (k : IntKind) (x : Int) : convertA X 149 2 (.int k x) = some (.int .i64 (IntKind.wrap .i64 x)) := by kernel_rfl
theorem fn_100 : X.fn 100 = some Tryz.f100 := fn_at Tryz.func100 (by kernel_rfl)
theorem ld_39 (H : Look) (a : Addr) : loadT X H 39 a = load1 H a := by kernel_rfl
theorem fn_101 : X.fn 101 = some Tryz.f101 := fn_at Tryz.func101 (by kernel_rfl)
theorem fn_102 : X.fn 102 = some Tryz.f102 := fn_at Tryz.func102 (by kernel_rfl)
theorem fn_103 : X.fn 103 = some Tryz.f103 := fn_at Tryz.func103 (by kernel_rfl)
theorem fn_104 : X.fn 104 = some Tryz.f104 := fn_at Tryz.func104 (by kernel_rfl)
theorem fn_105 : X.fn 105 = some Tryz.f105 := fn_at Tryz.func105 (by kernel_rfl)
theorem ix_173 (b off : Nat) (k : IntKind) (i : Int) : indexAddrA X 173 (.pointer (some ⟨b, off, none⟩)) (.int k i) = if 0 ≤ i ∧ i < ((20 : Nat) : Int) then some (.pointer (some ((⟨b, off, none⟩ : Addr).add (i.toNat * 1)))) else none := by kernel_rfl
theorem fn_106 : X.fn 106 = some Tryz.f106 := fn_at Tryz.func106 (by kernel_rfl)
theorem cv_149_174 (k : IntKind) (x : Int) : convertA X 149 174 (.int k x) = some (.int .u32 (IntKind.wrap .u32 x)) := by kernel_rfl
theorem cv_174_5 (k : IntKind) (x : Int) : convertA X 174 5 (.int k x) = some (.int .u8 (IntKind.wrap .u8 x)) := by kernel_rfl
theorem fn_107 : X.fn 107 = some Tryz.f107 := fn_at Tryz.func107 (by kernel_rfl)
theorem al_175 (nm : Nat) (ρ : Operand → Value) : allocA X nm ρ (.alloc 175) = some (.pointer (some ⟨nm, 0, none⟩), fun v => .cells (PT.ofList [.int .u8 0, .int .u8 0, .int .u8 0, .int .u8 0, .int .u8 0, .int .u8 0, .int .u8 0, .int .u8 0, .int .u8 0, .int .u8 0, .int .u8 0, .int .u8 0, .int .u8 0, .int .u8 0, .int .u8 0, .int .u8 0, .int .u8 0, .int .u8 0, .int .u8 0, .int .u8 0, .int .u8 0, .int .u8 0, .int .u8 0, .int .u8 0, .int .u8 0, .int .u8 0, .int .u8 0, .int .u8 0, .int .u8 0, .int .u8 0, .int .u8 0, .int .u8 0, .int .u8 0, .int .u8 0, .int .u8 0, .int .u8 0, .int .u8 0, .int .u8 0, .int .u8 0, .int .u8 0, .int .u8 0, .int .u8 0, .int .u8 0, .int .u8 0, .int .u8 0, .int .u8 0, .int .u8 0, .int .u8 0, .int .u8 0, .int .u8 0, .int .u8 0, .int .u8 0, .int .u8 0, .int .u8 0, .int .u8 0, .int .u8 0, .int .u8 0, .int .u8 0, .int .u8 0, .int .u8 0, .int .u8 0, .int .u8 0, .int .u8 0, .int .u8 0, .int .u8 0]) [] 65 175 false false v) := by kernel_rfl
theorem ix_175 (b off : Nat) (k : IntKind) (i : Int) : indexAddrA X 175 (.pointer (some ⟨b, off, none⟩)) (.int k i) = if 0 ≤ i ∧ i < ((65 : Nat) : Int) then some (.pointer (some ((⟨b, off, none⟩ : Addr).add (i.toNat * 1)))) else none := by kernel_rfl
theorem fn_108 : X.fn 108 = some Tryz.f108 := fn_at Tryz.func108 (by kernel_rfl)
theorem fn_109 : X.fn 109 = some Tryz.f109 := fn_at Tryz.func109 (by kernel_rfl)
theorem fn_110 : X.fn 110 = some Tryz.f110 := fn_at Tryz.func110 (by kernel_rfl)
theorem neP_75 (H : Look) (a : Addr) : binop X H .neq 75 (.pointer (some a)) (.pointer none) = some (.bool true) := by kernel_rfl
theorem neN_75 (H : Look) : binop X H .neq 75 (.pointer none) (.pointer none) = some (.bool false) := by kernel_rfl
theorem fn_111 : X.fn 111 = some Tryz.f111 := fn_at Tryz.func111 (by kernel_rfl)
theorem fn_112 : X.fn 112 = some Tryz.f112 := fn_at Tryz.func112 (by kernel_rfl)
theorem fn_113 : X.fn 113 = some Tryz.f113 := fn_at Tryz.func113 (by kernel_rfl)
theorem fn_114 : X.fn 114 = some Tryz.f114 := fn_at Tryz.func114 (by kernel_rfl)
theorem fn_115 : X.fn 115 = some Tryz.f115 := fn_at Tryz.func115 (by kernel_rfl)
theorem fn_116 : X.fn 116 = some Tryz.f116 := fn_at Tryz.func116 (by kernel_rfl)
theorem cv_149_3 (k : IntKind) (x : Int) : convertA X 149 3 (.int k x) = some (.int .i64 (IntKind.wrap .i64 x)) := by kernel_rfl
theorem fn_117 : X.fn 117 = some Tryz.f117 := fn_at Tryz.func117 (by kernel_rfl)
theorem fn_118 : X.fn 118 = some Tryz.f118 := fn_at Tryz.func118 (by kernel_rfl)
theorem fn_119 : X.fn 119 = some Tryz.f119 := fn_at Tryz.func119 (by kernel_rfl)
theorem fn_120 : X.fn 120 = some Tryz.f120 := fn_at Tryz.func120 (by kernel_rfl)
theorem cv_160_174 (k : IntKind) (x : Int) : convertA X 160 174 (.int k x) = some (.int .u32 (IntKind.wrap .u32 x)) := by kernel_rfl
theorem fn_121 : X.fn 121 = some Tryz.f121 := fn_at Tryz.func121 (by kernel_rfl)
theorem fn_122 : X.fn 122 = some Tryz.f122 := fn_at Tryz.func122 (by kernel_rfl)
theorem ld_50 (H : Look) (a : Addr) : loadT X H 50 a = load1 H a := by kernel_rfl
theorem fa_81_1 (b off : Nat) : fieldAddrA X 81 (.pointer (some ⟨b, off, none⟩)) 1 = some (.pointer (some ⟨b, off + 1, none⟩)) := by kernel_rfl
theorem fa_81_2 (b off : Nat) : fieldAddrA X 81 (.pointer (some ⟨b, off, none⟩)) 2 = some (.pointer (some ⟨b, off + 2, none⟩)) := by kernel_rfl
theorem bs_162_3_0_1_2 (nm : Nat) (x0 : Option Addr) (x0n x0c : Nat) (x1 : Option Addr) (x1n x1c : Nat) (x2 : Option Addr) (x2n x2c : Nat) : bsA X nm 162 3 [(0, Value.slice x0 x0n x0c), (1, Value.slice x1 x1n x1c), (2, Value.slice x2 x2n x2c)] = some (.slice (some ⟨nm, 0, none⟩) 3 3, fun v => .cells (PT.ofList [.slice x0 x0n x0c, .slice x1 x1n x1c, .slice x2 x2n x2c]) [] 3 73 false false v) := by kernel_rfl
theorem len_162 (H : Look) (a : Option Addr) (n c : Nat) : lenOfA X H 162 (.slice a n c) = some (.int .i64 n) := by kernel_rfl
theorem ix_162 (b off n c : Nat) (k : IntKind) (i : Int) : indexAddrA X 162 (.slice (some ⟨b, off, none⟩) n c) (.int k i) = if 0 ≤ i ∧ i < (n : Int) then some (.pointer (some ((⟨b, off, none⟩ : Addr).add (i.toNat * 1)))) else none := by kernel_rfl
theorem bd_101_0_2  (x0 : Int) (x2 : Int) : buildA X 101 [(0, Value.int .i64 x0), (2, Value.int .i64 x2)] = some (.agg #[.int .i64 x0, .int .i64 0, .int .i64 x2]) := by kernel_rfl
theorem fa_101_1 (b off : Nat) : fieldAddrA X 101 (.pointer (some ⟨b, off, none⟩)) 1 = some (.pointer (some ⟨b, off + 1, none⟩)) := by kernel_rfl
theorem fa_101_2 (b off : Nat) : fieldAddrA X 101 (.pointer (some ⟨b, off, none⟩)) 2 = some (.pointer (some ⟨b, off + 2, none⟩)) := by kernel_rfl
theorem fn_123 : X.fn 123 = some Tryz.f123 := fn_at Tryz.func123 (by kernel_rfl)
theorem fn_125 : X.fn 125 = some Tryz.f125 := fn_at Tryz.func125 (by kernel_rfl)
theorem fn_126 : X.fn 126 = some Tryz.f126 := fn_at Tryz.func126 (by kernel_rfl)
theorem cv_5_174 (k : IntKind) (x : Int) : convertA X 5 174 (.int k x) = some (.int .u32 (IntKind.wrap .u32 x)) := by kernel_rfl
theorem fn_128 : X.fn 128 = some Tryz.f128 := fn_at Tryz.func128 (by kernel_rfl)
theorem cv_5_21 (k : IntKind) (x : Int) : convertA X 5 21 (.int k x) = some (.int .i32 (IntKind.wrap .i32 x)) := by kernel_rfl
theorem fn_129 : X.fn 129 = some Tryz.f129 := fn_at Tryz.func129 (by kernel_rfl)
theorem cv_3_5 (k : IntKind) (x : Int) : convertA X 3 5 (.int k x) = some (.int .u8 (IntKind.wrap .u8 x)) := by kernel_rfl
theorem cv_5_149 (k : IntKind) (x : Int) : convertA X 5 149 (.int k x) = some (.int .u64 (IntKind.wrap .u64 x)) := by kernel_rfl
theorem fn_130 : X.fn 130 = some Tryz.f130 := fn_at Tryz.func130 (by kernel_rfl)
theorem mk_33 {nm : Nat} {n m : Int} (h1 : 0 ≤ n) (h2 : n ≤ m) (h3 : m < 2 ^ 40) (h4 : 1 * m ≤ 2 ^ 48) : mkA X nm 33 (.int .i64 n) (.int .i64 m) = some (.slice (some ⟨nm, 0, none⟩) n.toNat m.toNat, fun v => .cells .nil [.int .u8 0] (m.toNat * 1) 5 false false v) := mkA_of (z := .int .u8 0) (by kernel_rfl) (by kernel_rfl) rfl h1 h2 h3 h4
theorem fn_131 : X.fn 131 = some Tryz.f131 := fn_at Tryz.func131 (by kernel_rfl)
theorem bd_191_0  (x0 : ByteArray) : buildA X 191 [(0, Value.string x0)] = some (.agg #[.string x0]) := by kernel_rfl
theorem fn_132 : X.fn 132 = some Tryz.f132 := fn_at Tryz.func132 (by kernel_rfl)
theorem fn_133 : X.fn 133 = some Tryz.f133 := fn_at Tryz.func133 (by kernel_rfl)
theorem cv_149_5 (k : IntKind) (x : Int) : convertA X 149 5 (.int k x) = some (.int .u8 (IntKind.wrap .u8 x)) := by kernel_rfl
theorem fn_134 : X.fn 134 = some Tryz.f134 := fn_at Tryz.func134 (by kernel_rfl)
theorem fn_135 : X.fn 135 = some Tryz.f135 := fn_at Tryz.func135 (by kernel_rfl)
theorem fn_136 : X.fn 136 = some Tryz.f136 := fn_at Tryz.func136 (by kernel_rfl)
theorem fn_137 : X.fn 137 = some Tryz.f137 := fn_at Tryz.func137 (by kernel_rfl)
theorem fn_138 : X.fn 138 = some Tryz.f138 := fn_at Tryz.func138 (by kernel_rfl)
theorem fn_139 : X.fn 139 = some Tryz.f139 := fn_at Tryz.func139 (by kernel_rfl)
theorem fn_140 : X.fn 140 = some Tryz.f140 := fn_at Tryz.func140 (by kernel_rfl)
theorem cv_3_192 (k : IntKind) (x : Int) : convertA X 3 192 (.int k x) = some (.int .u64 (IntKind.wrap .u64 x)) := by kernel_rfl
theorem al_192 (nm : Nat) (ρ : Operand → Value) : allocA X nm ρ (.alloc 192) = some (.pointer (some ⟨nm, 0, none⟩), fun v => .cells (PT.ofList [.int .u64 0]) [] 1 192 false false v) := by kernel_rfl
theorem st_192 (s : St) (a : Addr) (v : Value) : storeT X s 192 a v = if v.cells.size = 1 then storeN s a v.cells.toList else none := by kernel_rfl
theorem cv_160_3 (k : IntKind) (x : Int) : convertA X 160 3 (.int k x) = some (.int .i64 (IntKind.wrap .i64 x)) := by kernel_rfl
theorem fn_141 : X.fn 141 = some Tryz.f141 := fn_at Tryz.func141 (by kernel_rfl)
theorem al_3 (nm : Nat) (ρ : Operand → Value) : allocA X nm ρ (.alloc 3) = some (.pointer (some ⟨nm, 0, none⟩), fun v => .cells (PT.ofList [.int .i64 0]) [] 1 3 false false v) := by kernel_rfl
theorem fn_142 : X.fn 142 = some Tryz.f142 := fn_at Tryz.func142 (by kernel_rfl)
theorem fn_143 : X.fn 143 = some Tryz.f143 := fn_at Tryz.func143 (by kernel_rfl)
theorem fn_144 : X.fn 144 = some Tryz.f144 := fn_at Tryz.func144 (by kernel_rfl)
theorem fn_145 : X.fn 145 = some Tryz.f145 := fn_at Tryz.func145 (by kernel_rfl)
theorem fn_146 : X.fn 146 = some Tryz.f146 := fn_at Tryz.func146 (by kernel_rfl)
theorem fn_147 : X.fn 147 = some Tryz.f147 := fn_at Tryz.func147 (by kernel_rfl)
theorem fn_148 : X.fn 148 = some Tryz.f148 := fn_at Tryz.func148 (by kernel_rfl)
theorem fn_149 : X.fn 149 = some Tryz.f149 := fn_at Tryz.func149 (by kernel_rfl)
theorem ix_197 (b off : Nat) (k : IntKind) (i : Int) : indexAddrA X 197 (.pointer (some ⟨b, off, none⟩)) (.int k i) = if 0 ≤ i ∧ i < ((256 : Nat) : Int) then some (.pointer (some ((⟨b, off, none⟩ : Addr).add (i.toNat * 1)))) else none := by kernel_rfl
theorem ix_200 (b off : Nat) (k : IntKind) (i : Int) : indexAddrA X 200 (.pointer (some ⟨b, off, none⟩)) (.int k i) = if 0 ≤ i ∧ i < ((16 : Nat) : Int) then some (.pointer (some ((⟨b, off, none⟩ : Addr).add (i.toNat * 2)))) else none := by kernel_rfl
theorem ld_199 (H : Look) (a : Addr) : loadT X H 199 a = (match loadN H a 2 with | some l => some (.agg l.toArray) | none => none) := by kernel_rfl
theorem al_199 (nm : Nat) (ρ : Operand → Value) : allocA X nm ρ (.alloc 199) = some (.pointer (some ⟨nm, 0, none⟩), fun v => .cells (PT.ofList [.int .u8 0, .int .u8 0]) [] 2 199 false false v) := by kernel_rfl
theorem st_199 (s : St) (a : Addr) (v : Value) : storeT X s 199 a v = if v.cells.size = 2 then storeN s a v.cells.toList else none := by kernel_rfl
theorem fa_199_0 (b off : Nat) : fieldAddrA X 199 (.pointer (some ⟨b, off, none⟩)) 0 = some (.pointer (some ⟨b, off, none⟩)) := by kernel_rfl
theorem fa_199_1 (b off : Nat) : fieldAddrA X 199 (.pointer (some ⟨b, off, none⟩)) 1 = some (.pointer (some ⟨b, off + 1, none⟩)) := by kernel_rfl
theorem fn_150 : X.fn 150 = some Tryz.f150 := fn_at Tryz.func150 (by kernel_rfl)
theorem fn_151 : X.fn 151 = some Tryz.f151 := fn_at Tryz.func151 (by kernel_rfl)
theorem fn_152 : X.fn 152 = some Tryz.f152 := fn_at Tryz.func152 (by kernel_rfl)
theorem ix_201 (b off : Nat) (k : IntKind) (i : Int) : indexAddrA X 201 (.pointer (some ⟨b, off, none⟩)) (.int k i) = if 0 ≤ i ∧ i < ((32 : Nat) : Int) then some (.pointer (some ((⟨b, off, none⟩ : Addr).add (i.toNat * 1)))) else none := by kernel_rfl
theorem fn_153 : X.fn 153 = some Tryz.f153 := fn_at Tryz.func153 (by kernel_rfl)
theorem ix_202 (b off : Nat) (k : IntKind) (i : Int) : indexAddrA X 202 (.pointer (some ⟨b, off, none⟩)) (.int k i) = if 0 ≤ i ∧ i < ((64 : Nat) : Int) then some (.pointer (some ((⟨b, off, none⟩ : Addr).add (i.toNat * 1)))) else none := by kernel_rfl
theorem fn_154 : X.fn 154 = some Tryz.f154 := fn_at Tryz.func154 (by kernel_rfl)
theorem fn_155 : X.fn 155 = some Tryz.f155 := fn_at Tryz.func155 (by kernel_rfl)
theorem fn_156 : X.fn 156 = some Tryz.f156 := fn_at Tryz.func156 (by kernel_rfl)
theorem ld_192 (H : Look) (a : Addr) : loadT X H 192 a = load1 H a := by kernel_rfl
theorem fn_157 : X.fn 157 = some Tryz.f157 := fn_at Tryz.func157 (by kernel_rfl)
theorem fn_158 : X.fn 158 = some Tryz.f158 := fn_at Tryz.func158 (by kernel_rfl)
theorem fn_159 : X.fn 159 = some Tryz.f159 := fn_at Tryz.func159 (by kernel_rfl)
theorem fn_193 : X.fn 193 = some Tryz.f193 := fn_at Tryz.func193 (by kernel_rfl)
theorem st_201 (s : St) (a : Addr) (v : Value) : storeT X s 201 a v = if v.cells.size = 32 then storeN s a v.cells.toList else none := by kernel_rfl
theorem st_202 (s : St) (a : Addr) (v : Value) : storeT X s 202 a v = if v.cells.size = 64 then storeN s a v.cells.toList else none := by kernel_rfl
theorem st_173 (s : St) (a : Addr) (v : Value) : storeT X s 173 a v = if v.cells.size = 20 then storeN s a v.cells.toList else none := by kernel_rfl
theorem bd_199_0_1  (x0 : Int) (x1 : Int) : buildA X 199 [(0, Value.int .u8 x0), (1, Value.int .u8 x1)] = some (.agg #[.int .u8 x0, .int .u8 x1]) := by kernel_rfl
theorem st_200 (s : St) (a : Addr) (v : Value) : storeT X s 200 a v = if v.cells.size = 32 then storeN s a v.cells.toList else none := by kernel_rfl
theorem st_39 (s : St) (a : Addr) (v : Value) : storeT X s 39 a v = if v.cells.size = 1 then storeN s a v.cells.toList else none := by kernel_rfl
theorem st_42 (s : St) (a : Addr) (v : Value) : storeT X s 42 a v = if v.cells.size = 12 then storeN s a v.cells.toList else none := by kernel_rfl
end Go.Dust
end
section
/- The library's strings.Builder as0 this program's text bears it. -/
namespace Go.Proofs
open Go.Shelf Go.RowKit
theorem Tryz.sizeB : (Tryz.prog.info? 35).map (·.size) = some 2 := by kernel_rfl
theorem Tryz.infoB : ((Tryz.prog.info? 5).map fun i => (i.zero, i.size, i.bytes)) = some (some (.int .u8 0), 1, 1) := by kernel_rfl
set_option maxHeartbeats 1000000 in
set_option maxRecDepth 100000 in
theorem Tryz.copyCheck_fresh (b : Nat) (w : World) (h0 : w.cell? ⟨b, 0, none⟩ = some (.pointer none)) (hsh : w.shape? b = some (35, 2)) (hfz : w.frozen? ⟨b, 0, none⟩ = false) :
    Calls Tryz.prog 32 #[.pointer (some ⟨b, 0, none⟩)] w fun e w' => e = .returned (.tuple #[]) ∧ w' = w.setCell ⟨b, 0, none⟩ (.pointer (some ⟨b, 0, none⟩)) := by
  obtain ⟨j, hj, hjs⟩ := Option.map_eq_some_iff.1 Tryz.sizeB
  go_enter Tryz.func32, Tryz.ntmps32
  go_wp2
  rw [Lib.run_to_unsafe w ⟨b, 0, none⟩ Tryz.underlying32 Tryz.underlying112 hj (by rw [hjs]; decide) hsh (Nat.zero_lt_succ 1)]
  simp only [Result.andThen]
  rw [Oper.upon_value]
  go_wp2
  rw [run_callFunc_extern Tryz.func70 (by kernel_rfl) (by kernel_rfl) (by kernel_rfl) (e := Extern.AbiNoEscape.same) (by kernel_rfl)]
  rw [Lib.run_noEscape]
  simp only [Result.andThen]
  rw [Oper.upon_value]
  go_wp2
  rw [Lib.run_from_unsafe w ⟨b, 0, none⟩ Tryz.underlying112 Tryz.underlying32 hj hsh (by kernel_rfl)]
  simp only [Result.andThen]
  rw [Oper.upon_value]
  go_wp2
  go_end0
  exact ⟨rfl, rfl⟩
set_option maxHeartbeats 1000000 in
set_option maxRecDepth 100000 in
theorem Tryz.copyCheck_used (b : Nat) (w : World) (h0 : w.cell? ⟨b, 0, none⟩ = some (.pointer (some ⟨b, 0, none⟩))) :
    Calls Tryz.prog 32 #[.pointer (some ⟨b, 0, none⟩)] w fun e w' => e = .returned (.tuple #[]) ∧ w' = w := by
  obtain ⟨j, hj, _⟩ := Option.map_eq_some_iff.1 Tryz.sizeB
  go_enter Tryz.func32, Tryz.ntmps32
  go_wp2
  rw [Lib.run_neq_ptr_same w _ Tryz.underlying32 hj]
  go_wp2
  go_end0
  exact ⟨rfl, rfl⟩
theorem Tryz.copyCheck (B b : Nat) (bs : List Value) (w : World) (h : Lib.IsBuilderF 35 5 B b bs w) :
    Calls Tryz.prog 32 #[.pointer (some ⟨b, 0, none⟩)] w fun e w' => e = .returned (.tuple #[]) ∧ (Lib.BuilderAtF 35 5 B b (.pointer (some ⟨b, 0, none⟩)) bs w' ∧ Below B w w' ∧ Lib.OthersKept 5 (some b) w w') := by
  rcases h with h | h
  · refine (Tryz.copyCheck_fresh b w h.cell0 h.shape h.frozen0).mono ?_
    rintro e w' ⟨rfl, rfl⟩
    exact ⟨rfl, h.used _, (Below.refl B w).setCell (p := ⟨b, 0, none⟩) h.1 _, (Lib.OthersKept.refl _ _ w).setCell ⟨b, 0, none⟩ rfl _⟩
  · refine (Tryz.copyCheck_used b w h.cell0).mono ?_
    rintro e w' ⟨rfl, rfl⟩
    exact ⟨rfl, h, Below.refl B _, Lib.OthersKept.refl _ _ _⟩
set_option maxHeartbeats 2000000 in
set_option maxRecDepth 100000 in
theorem Tryz.writeString (B b : Nat) (bs : List Value) (s : ByteArray) (w : World) (h : Lib.IsBuilderF 35 5 B b bs w) (hlen : bs.length + s.size ≤ 140737488355328) (hBw : B ≤ w.heap.size) :
    Calls Tryz.prog 11 #[.pointer (some ⟨b, 0, none⟩), .string s] w fun e w' => e = .returned (.tuple #[.int .i64 s.size, .nilIface]) ∧ (Lib.BuilderAtF 35 5 B b (.pointer (some ⟨b, 0, none⟩)) (bs ++ Lib.strCells s) w' ∧ Below B w w' ∧ Lib.OthersKept 5 (some b) w w') := by
  obtain ⟨i0, hi, hz0, hz1, hz2⟩ := info_parts Tryz.infoB
  go_enter Tryz.func11, Tryz.ntmps11
  go_wp2_with (go_at_call 32; refine (Tryz.copyCheck B b bs _ h).mono ?_)
  rintro e w1 ⟨rfl, h1, hb1, hk1⟩
  obtain ⟨hB, v, hbk, hown, hne⟩ := h1
  have c0 : w1.cell? ⟨b, 0, none⟩ = some (.pointer (some ⟨b, 0, none⟩)) := by rw [Lib.cell_of_heap hbk]; rfl
  have c1 : w1.cell? ⟨b, 1, none⟩ = some v := by rw [Lib.cell_of_heap hbk]; rfl
  go_wp2_with (at_builtin; refine Lib.wpList_append_own_stringF _ rfl _ _ 33 9 rfl B 5 i0 Tryz.underlying33 Tryz.underlying9 hi hz0 hz1 hz2 _ _ _ rfl hown s rfl ?c3 ?c4 ?c5 ?_)
  case c3 => unfold maxLen; omega
  case c4 => omega
  case c5 => have := hb1.size; omega
  intro v' w2 hown' hgrow _
  have hlt : b < w1.heap.size := (Array.getElem?_eq_some_iff.1 hbk).1
  have hb2 : w2.heap[b]? = some (.cells #[.pointer (some ⟨b, 0, none⟩), v] 35 (0, 0)) := by
    rw [hgrow.block b hlt (fun e => hne e.symm)]
    exact hbk
  have d0 : w2.cell? ⟨b, 0, none⟩ = some (.pointer (some ⟨b, 0, none⟩)) := by rw [Lib.cell_of_heap hb2]; rfl
  have d1 : w2.cell? ⟨b, 1, none⟩ = some v := by rw [Lib.cell_of_heap hb2]; rfl
  have f1 : w2.frozen? ⟨b, 1, none⟩ = false := Lib.frozen_of_heap hb2 1
  obtain ⟨ao, n', cap, rfl⟩ : ∃ ao n' cap, v' = .slice ao n' cap := by
    rcases hown'.2 with ⟨hv, _⟩ | ⟨g, cap, cur, fz, hv, _⟩
    · exact ⟨_, _, _, hv⟩
    · exact ⟨_, _, _, hv⟩
  go_wp2
  go_ret2
  refine ⟨rfl, ?_, ?_, (hk1.grown hgrow (Lib.ownsRowF_kind hown)).setCell ⟨b, 1, none⟩ rfl _⟩
  · exact Lib.BuilderAtF.put (T := 35) (e := 5) hB hb2 (bs' := bs ++ Lib.strCells s) (by simpa [Lib.strCells_length] using hown') (by decide)
  · exact (hb1.grown hgrow (by have := hb1.size; omega) (fun k hk => (hown.lt k hk).1)).setCell (p := ⟨b, 1, none⟩) hB _
end Go.Proofs
end
section
/-
  DERIVED: THE SHELF's CONTRACTS AT THIS DUMP, IN PLAIN WORDS (tools/lay-plain.mjs out of 'TryzShelf.lean', which tools/lay-shelf.mjs wrote): THE SAME DECLARATIONS UNDER THE SAME NAMES: 'import', 'namespace', 'open', 'def', 'theorem' AND NOTHING ELSE: no command of the shelf's: FOR A HAND-IN. Each laying: the table of numbers ('.._ren') and one theorem, a field a fact of the dump's own or the kernel's comparison; each contract: ONE APPLICATION.
-/
namespace Go.Proofs
open Go.Shelf
def Tryz.lays169_ren : Go.Shelf.Ren := ⟨fun | 169 => 13 | n => n, fun | 70 => 32 | 9 => 9 | 0 => 0 | 72 => 35 | 37 => 33 | 127 => 71 | 3 => 3 | 5 => 5 | n => n, fun | n => n⟩
theorem Tryz.lays169 : Go.Proofs.Lays.n169 Tryz.prog Tryz.lays169_ren := {
  mixed := by kernel_rfl
  f169 := Tryz.func13.trans (congrArg some (by kernel_rfl))
  t0 := Tryz.underlying0
  a0 := Tryz.isAgg0
  z0 := Tryz.sizeOf0
  v0 := Tryz.zeroValue0
  t3 := Tryz.underlying3
  a3 := Tryz.isAgg3
  z3 := Tryz.sizeOf3
  v3 := Tryz.zeroValue3
  t9 := Tryz.underlying9
  a9 := Tryz.isAgg9
  z9 := Tryz.sizeOf9
  v9 := Tryz.zeroValue9
  t37 := Tryz.underlying33
  a37 := Tryz.isAgg33
  z37 := Tryz.sizeOf33
  v37 := Tryz.zeroValue33
  t70 := Tryz.underlying32
  a70 := Tryz.isAgg32
  z70 := Tryz.sizeOf32
  v70 := Tryz.zeroValue32
  t72 := Tryz.underlying35
  a72 := Tryz.isAgg35
  z72 := Tryz.sizeOf35
  v72 := Tryz.zeroValue35
  t127 := Tryz.underlying71
  a127 := Tryz.isAgg71
  z127 := Tryz.sizeOf71
  v127 := Tryz.zeroValue71 }
theorem Tryz.Builder_Extra_169 : Builder.Extra Tryz.prog Tryz.lays169_ren := {
  sizeBuilder := by kernel_rfl
  liesBuilder := by kernel_rfl
  t5 := Tryz.underlying5
  a5 := Tryz.isAgg5
  z5 := Tryz.sizeOf5
  v5 := Tryz.zeroValue5
  infoByte := by kernel_rfl
  cellsByte := by kernel_rfl
  sizeByte := by kernel_rfl
  neB5 := by decide }
def Tryz.lays137_ren : Go.Shelf.Ren := ⟨fun | 137 => 65 | 217 => 97 | 266 => 127 | n => n, fun | 9 => 9 | 5 => 5 | 3 => 3 | n => n, fun | n => n⟩
theorem Tryz.lays137 : Go.Proofs.Lays.n137 Tryz.prog Tryz.lays137_ren := {
  mixed := by kernel_rfl
  f137 := Tryz.func65.trans (congrArg some (by kernel_rfl))
  f217 := Tryz.func97.trans (congrArg some (by kernel_rfl))
  f266 := Tryz.func127.trans (congrArg some (by kernel_rfl))
  t3 := Tryz.underlying3
  a3 := Tryz.isAgg3
  z3 := Tryz.sizeOf3
  v3 := Tryz.zeroValue3
  t5 := Tryz.underlying5
  a5 := Tryz.isAgg5
  z5 := Tryz.sizeOf5
  v5 := Tryz.zeroValue5
  t9 := Tryz.underlying9
  a9 := Tryz.isAgg9
  z9 := Tryz.sizeOf9
  v9 := Tryz.zeroValue9 }
open Go.RowKit in
/-- strings.IndexByte: "IndexByte returns the index of the first instance of c in s, or -1 if c is not present in s.": IT RETURNS 'Lib.indexByte s c'; the world is as0 it was. (LAID: no walk: one application.) -/
theorem Tryz.strings_IndexByte (s : ByteArray) (c : Int) (w : World) :
    Calls Tryz.prog 65 #[.string s, .int .u8 c] w fun e w' => e = .returned (.int .i64 (Lib.indexByte s.data.toList c.toNat.toUInt8)) ∧ w' = w := Any.strings_IndexByte Tryz.lays137 s c w
open Go.RowKit in
/-- (*strings.Builder).String: "String returns the accumulated string.": WHATEVER THE BUILDER HOLDS; THE FORM '_k': OVER 'Lib.IsBuilderF' (a builder that 'String()' may have read), AND WITH THE FRAME THAT REACHES ABOVE THE BUILDER: 'Lib.OthersKept': every block that is not b and is no row of uint8's stands as0 it stood: the iterator of a range among them. (LAID: no walk: one application.) -/
theorem Tryz.Builder_String_any_k (B b : Nat) (l : List UInt8) (w : World) (h : Lib.IsBuilderF 35 5 B b (Lib.byteCells l) w) (hBw : B ≤ w.heap.size) :
    Calls Tryz.prog 13 #[.pointer (some ⟨b, 0, none⟩)] w fun e w' => e = .returned (.string ⟨l.toArray⟩) ∧ (Lib.IsBuilderF 35 5 B b (Lib.byteCells l) w' ∧ Below B w w' ∧ Lib.OthersKept 5 (some b) w w') := Any.Builder_String_any_k Tryz.lays169 Tryz.Builder_Extra_169 B b l w h hBw
def Tryz.laysM171_ren : Go.Shelf.Ren := ⟨fun | 171 => 12 | 243 => 33 | 246 => 71 | 283 => 104 | 284 => 105 | 285 => 106 | 286 => 107 | 129 => 133 | 317 => 132 | 318 => 134 | 319 => 135 | 320 => 136 | 337 => 152 | 338 => 153 | n => n, fun | 3 => 3 | 9 => 9 | 2 => 2 | 4 => 4 | 171 => 148 | 0 => 0 | 53 => 149 | 37 => 33 | 5 => 5 | 173 => 152 | 212 => 173 | 51 => 174 | 20 => 20 | 213 => 175 | 46 => 160 | 232 => 201 | 233 => 202 | n => n, fun | 17 => 4 | 18 => 7 | 19 => 8 | n => n⟩
theorem Tryz.laysM171 : Go.Proofs.LaysM.n171 Tryz.prog Tryz.laysM171_ren := {
  mixed := by kernel_rfl
  f129 := Tryz.func133.trans (congrArg some (by kernel_rfl))
  f171 := Tryz.func12.trans (congrArg some (by kernel_rfl))
  f243 := Tryz.func33.trans (congrArg some (by kernel_rfl))
  f246 := Tryz.func71.trans (congrArg some (by kernel_rfl))
  f283 := Tryz.func104.trans (congrArg some (by kernel_rfl))
  f284 := Tryz.func105.trans (congrArg some (by kernel_rfl))
  f285 := Tryz.func106.trans (congrArg some (by kernel_rfl))
  f286 := Tryz.func107.trans (congrArg some (by kernel_rfl))
  f317 := Tryz.func132.trans (congrArg some (by kernel_rfl))
  f318 := Tryz.func134.trans (congrArg some (by kernel_rfl))
  f319 := Tryz.func135.trans (congrArg some (by kernel_rfl))
  f320 := Tryz.func136.trans (congrArg some (by kernel_rfl))
  f337 := Tryz.func152.trans (congrArg some (by kernel_rfl))
  f338 := Tryz.func153.trans (congrArg some (by kernel_rfl))
  t0 := Tryz.underlying0
  a0 := Tryz.isAgg0
  z0 := Tryz.sizeOf0
  v0 := Tryz.zeroValue0
  t2 := Tryz.underlying2
  a2 := Tryz.isAgg2
  z2 := Tryz.sizeOf2
  v2 := Tryz.zeroValue2
  t3 := Tryz.underlying3
  a3 := Tryz.isAgg3
  z3 := Tryz.sizeOf3
  v3 := Tryz.zeroValue3
  t4 := Tryz.underlying4
  a4 := Tryz.isAgg4
  z4 := Tryz.sizeOf4
  v4 := Tryz.zeroValue4
  t5 := Tryz.underlying5
  a5 := Tryz.isAgg5
  z5 := Tryz.sizeOf5
  v5 := Tryz.zeroValue5
  t9 := Tryz.underlying9
  a9 := Tryz.isAgg9
  z9 := Tryz.sizeOf9
  v9 := Tryz.zeroValue9
  t20 := Tryz.underlying20
  a20 := Tryz.isAgg20
  z20 := Tryz.sizeOf20
  v20 := Tryz.zeroValue20
  t37 := Tryz.underlying33
  a37 := Tryz.isAgg33
  z37 := Tryz.sizeOf33
  v37 := Tryz.zeroValue33
  t46 := Tryz.underlying160
  a46 := Tryz.isAgg160
  z46 := Tryz.sizeOf160
  v46 := Tryz.zeroValue160
  t51 := Tryz.underlying174
  a51 := Tryz.isAgg174
  z51 := Tryz.sizeOf174
  v51 := Tryz.zeroValue174
  t53 := Tryz.underlying149
  a53 := Tryz.isAgg149
  z53 := Tryz.sizeOf149
  v53 := Tryz.zeroValue149
  t171 := Tryz.underlying148
  a171 := Tryz.isAgg148
  z171 := Tryz.sizeOf148
  v171 := Tryz.zeroValue148
  t173 := Tryz.underlying152
  a173 := Tryz.isAgg152
  z173 := Tryz.sizeOf152
  v173 := Tryz.zeroValue152
  t212 := Tryz.underlying173
  a212 := Tryz.isAgg173
  z212 := Tryz.sizeOf173
  v212 := Tryz.zeroValue173
  t213 := Tryz.underlying175
  a213 := Tryz.isAgg175
  z213 := Tryz.sizeOf175
  t232 := Tryz.underlying201
  a232 := Tryz.isAgg201
  z232 := Tryz.sizeOf201
  v232 := Tryz.zeroValue201
  t233 := Tryz.underlying202
  a233 := Tryz.isAgg202
  z233 := Tryz.sizeOf202
  v233 := Tryz.zeroValue202
  g17 := by kernel_rfl
  g18 := by kernel_rfl
  g19 := by kernel_rfl
  i0 := by kernel_rfl
  i2 := by kernel_rfl
  i3 := by kernel_rfl
  i4 := by kernel_rfl
  i5 := by kernel_rfl
  i9 := by kernel_rfl
  i20 := by kernel_rfl
  i37 := by kernel_rfl
  i46 := by kernel_rfl
  i51 := by kernel_rfl
  i53 := by kernel_rfl
  i171 := by kernel_rfl
  i173 := by kernel_rfl
  i212 := by kernel_rfl
  i232 := by kernel_rfl
  i233 := by kernel_rfl
  m17 := by kernel_rfl
  m18 := by kernel_rfl
  m19 := by kernel_rfl }
open Go.RowKit Go.Sort Go.Lib in
/-- strconv.Itoa: "Itoa is equivalent to FormatInt(int64(i), 10).": i's DECIMAL NUMERAL ('Lib.itoa': a '-' where i is negative, then the digits), FOR EVERY int. The world behind the call: the world before it, new blocks behind the heap (the library's 'var a [24]byte'), draws. (LAID: no walk: one application.) -/
theorem Tryz.strconv_Itoa (n : Int) (h0 : -9223372036854775808 ≤ n) (h1 : n ≤ 9223372036854775807) (w : World) (htab : Lib.TabIs Tryz.prog w "internal/strconv.uint64pow10" .u64 Lib.pow10Tab) :
    Calls Tryz.prog 12 #[.int .i64 n] w fun e w' => e = .returned (.string ⟨(Lib.itoa n).toArray⟩) ∧ ∃ k os, w' = grow (w.drewN k) os := Any.strconv_Itoa Tryz.laysM171 n h0 h1 w htab
def Tryz.laysC172_ren : Go.Shelf.Ren := ⟨fun | 172 => 28 | 244 => 68 | 245 => 69 | 247 => 99 | 279 => 100 | 280 => 101 | 281 => 102 | 282 => 103 | 287 => 129 | 316 => 130 | 171 => 12 | 205 => 131 | 321 => 150 | 322 => 151 | 243 => 33 | 246 => 71 | 283 => 104 | 284 => 105 | 285 => 106 | 286 => 107 | 129 => 133 | 317 => 132 | 318 => 134 | 319 => 135 | 320 => 136 | 337 => 152 | 338 => 153 | n => n, fun | 9 => 9 | 3 => 3 | 75 => 39 | 76 => 40 | 4 => 4 | 5 => 5 | 167 => 142 | 37 => 33 | 0 => 0 | 85 => 143 | 2 => 2 | 168 => 145 | 53 => 149 | 175 => 166 | 46 => 160 | 210 => 170 | 127 => 71 | 145 => 191 | 143 => 189 | 21 => 21 | 171 => 148 | 173 => 152 | 212 => 173 | 51 => 174 | 20 => 20 | 213 => 175 | 232 => 201 | 233 => 202 | 80 => 44 | n => n, fun | 15 => 2 | 16 => 3 | 17 => 4 | 18 => 7 | 19 => 8 | n => n⟩
theorem Tryz.laysC172 : Go.Proofs.LaysC.n172 Tryz.prog Tryz.laysC172_ren := {
  mixed := by kernel_rfl
  f129 := Tryz.func133.trans (congrArg some (by kernel_rfl))
  f171 := Tryz.func12.trans (congrArg some (by kernel_rfl))
  f172 := Tryz.func28.trans (congrArg some (by kernel_rfl))
  f205 := Tryz.func131.trans (congrArg some (by kernel_rfl))
  f243 := Tryz.func33.trans (congrArg some (by kernel_rfl))
  f244 := Tryz.func68.trans (congrArg some (by kernel_rfl))
  f245 := Tryz.func69.trans (congrArg some (by kernel_rfl))
  f246 := Tryz.func71.trans (congrArg some (by kernel_rfl))
  f247 := Tryz.func99.trans (congrArg some (by kernel_rfl))
  f279 := Tryz.func100.trans (congrArg some (by kernel_rfl))
  f280 := Tryz.func101.trans (congrArg some (by kernel_rfl))
  f281 := Tryz.func102.trans (congrArg some (by kernel_rfl))
  f282 := Tryz.func103.trans (congrArg some (by kernel_rfl))
  f283 := Tryz.func104.trans (congrArg some (by kernel_rfl))
  f284 := Tryz.func105.trans (congrArg some (by kernel_rfl))
  f285 := Tryz.func106.trans (congrArg some (by kernel_rfl))
  f286 := Tryz.func107.trans (congrArg some (by kernel_rfl))
  f287 := Tryz.func129.trans (congrArg some (by kernel_rfl))
  f316 := Tryz.func130.trans (congrArg some (by kernel_rfl))
  f317 := Tryz.func132.trans (congrArg some (by kernel_rfl))
  f318 := Tryz.func134.trans (congrArg some (by kernel_rfl))
  f319 := Tryz.func135.trans (congrArg some (by kernel_rfl))
  f320 := Tryz.func136.trans (congrArg some (by kernel_rfl))
  f321 := Tryz.func150.trans (congrArg some (by kernel_rfl))
  f322 := Tryz.func151.trans (congrArg some (by kernel_rfl))
  f337 := Tryz.func152.trans (congrArg some (by kernel_rfl))
  f338 := Tryz.func153.trans (congrArg some (by kernel_rfl))
  t0 := Tryz.underlying0
  a0 := Tryz.isAgg0
  z0 := Tryz.sizeOf0
  v0 := Tryz.zeroValue0
  t2 := Tryz.underlying2
  a2 := Tryz.isAgg2
  z2 := Tryz.sizeOf2
  v2 := Tryz.zeroValue2
  t3 := Tryz.underlying3
  a3 := Tryz.isAgg3
  z3 := Tryz.sizeOf3
  v3 := Tryz.zeroValue3
  t4 := Tryz.underlying4
  a4 := Tryz.isAgg4
  z4 := Tryz.sizeOf4
  v4 := Tryz.zeroValue4
  t5 := Tryz.underlying5
  a5 := Tryz.isAgg5
  z5 := Tryz.sizeOf5
  v5 := Tryz.zeroValue5
  t9 := Tryz.underlying9
  a9 := Tryz.isAgg9
  z9 := Tryz.sizeOf9
  v9 := Tryz.zeroValue9
  t20 := Tryz.underlying20
  a20 := Tryz.isAgg20
  z20 := Tryz.sizeOf20
  v20 := Tryz.zeroValue20
  t21 := Tryz.underlying21
  a21 := Tryz.isAgg21
  z21 := Tryz.sizeOf21
  v21 := Tryz.zeroValue21
  t37 := Tryz.underlying33
  a37 := Tryz.isAgg33
  z37 := Tryz.sizeOf33
  v37 := Tryz.zeroValue33
  t46 := Tryz.underlying160
  a46 := Tryz.isAgg160
  z46 := Tryz.sizeOf160
  v46 := Tryz.zeroValue160
  t51 := Tryz.underlying174
  a51 := Tryz.isAgg174
  z51 := Tryz.sizeOf174
  v51 := Tryz.zeroValue174
  t53 := Tryz.underlying149
  a53 := Tryz.isAgg149
  z53 := Tryz.sizeOf149
  v53 := Tryz.zeroValue149
  t75 := Tryz.underlying39
  a75 := Tryz.isAgg39
  z75 := Tryz.sizeOf39
  v75 := Tryz.zeroValue39
  t76 := Tryz.underlying40
  a76 := Tryz.isAgg40
  z76 := Tryz.sizeOf40
  v76 := Tryz.zeroValue40
  t85 := Tryz.underlying143
  a85 := Tryz.isAgg143
  z85 := Tryz.sizeOf143
  v85 := Tryz.zeroValue143
  t127 := Tryz.underlying71
  a127 := Tryz.isAgg71
  z127 := Tryz.sizeOf71
  v127 := Tryz.zeroValue71
  t143 := Tryz.underlying189
  a143 := Tryz.isAgg189
  z143 := Tryz.sizeOf189
  v143 := Tryz.zeroValue189
  t145 := Tryz.underlying191
  a145 := Tryz.isAgg191
  z145 := Tryz.sizeOf191
  v145 := Tryz.zeroValue191
  t167 := Tryz.underlying142
  a167 := Tryz.isAgg142
  z167 := Tryz.sizeOf142
  v167 := Tryz.zeroValue142
  t168 := Tryz.underlying145
  a168 := Tryz.isAgg145
  z168 := Tryz.sizeOf145
  v168 := Tryz.zeroValue145
  t171 := Tryz.underlying148
  a171 := Tryz.isAgg148
  z171 := Tryz.sizeOf148
  v171 := Tryz.zeroValue148
  t173 := Tryz.underlying152
  a173 := Tryz.isAgg152
  z173 := Tryz.sizeOf152
  v173 := Tryz.zeroValue152
  t175 := Tryz.underlying166
  a175 := Tryz.isAgg166
  z175 := Tryz.sizeOf166
  v175 := Tryz.zeroValue166
  t210 := Tryz.underlying170
  a210 := Tryz.isAgg170
  z210 := Tryz.sizeOf170
  v210 := Tryz.zeroValue170
  t212 := Tryz.underlying173
  a212 := Tryz.isAgg173
  z212 := Tryz.sizeOf173
  v212 := Tryz.zeroValue173
  t213 := Tryz.underlying175
  a213 := Tryz.isAgg175
  z213 := Tryz.sizeOf175
  t232 := Tryz.underlying201
  a232 := Tryz.isAgg201
  z232 := Tryz.sizeOf201
  v232 := Tryz.zeroValue201
  t233 := Tryz.underlying202
  a233 := Tryz.isAgg202
  z233 := Tryz.sizeOf202
  v233 := Tryz.zeroValue202
  g15 := by kernel_rfl
  g16 := by kernel_rfl
  g17 := by kernel_rfl
  g18 := by kernel_rfl
  g19 := by kernel_rfl
  t80 := Tryz.underlying44
  a80 := Tryz.isAgg44
  z80 := Tryz.sizeOf44
  v80 := Tryz.zeroValue44
  i0 := by kernel_rfl
  i2 := by kernel_rfl
  i3 := by kernel_rfl
  i4 := by kernel_rfl
  i5 := by kernel_rfl
  i9 := by kernel_rfl
  i20 := by kernel_rfl
  i21 := by kernel_rfl
  i37 := by kernel_rfl
  i46 := by kernel_rfl
  i51 := by kernel_rfl
  i53 := by kernel_rfl
  i75 := by kernel_rfl
  i76 := by kernel_rfl
  i80 := by kernel_rfl
  i85 := by kernel_rfl
  i127 := by kernel_rfl
  i143 := by kernel_rfl
  i145 := by kernel_rfl
  i167 := by kernel_rfl
  i168 := by kernel_rfl
  i171 := by kernel_rfl
  i173 := by kernel_rfl
  i175 := by kernel_rfl
  i210 := by kernel_rfl
  i212 := by kernel_rfl
  i232 := by kernel_rfl
  i233 := by kernel_rfl
  m15 := by kernel_rfl
  m16 := by kernel_rfl
  m17 := by kernel_rfl
  m18 := by kernel_rfl
  m19 := by kernel_rfl
  c0 := by kernel_rfl
  c2 := by kernel_rfl
  c3 := by kernel_rfl
  c4 := by kernel_rfl
  c5 := by kernel_rfl
  c9 := by kernel_rfl
  c20 := by kernel_rfl
  c21 := by kernel_rfl
  c37 := by kernel_rfl
  c46 := by kernel_rfl
  c51 := by kernel_rfl
  c53 := by kernel_rfl
  c75 := by kernel_rfl
  c76 := by kernel_rfl
  c80 := by kernel_rfl
  c85 := by kernel_rfl
  c127 := by kernel_rfl
  c143 := by kernel_rfl
  c145 := by kernel_rfl
  c167 := by kernel_rfl
  c168 := by kernel_rfl
  c171 := by kernel_rfl
  c173 := by kernel_rfl
  c175 := by kernel_rfl
  c210 := by kernel_rfl
  c212 := by kernel_rfl
  c213 := by kernel_rfl
  c232 := by kernel_rfl
  c233 := by kernel_rfl }
open Go.RowKit in
/-- strconv.Atoi, AT EVERY STRING THAT SPELLS AN int ('Lib.atoiAll .. = .ok v'; of whatever length: leading zeros count): v, AND NO ERROR. The world: as0 it was, or with the one new row that '[]byte(..)' lays. (LAID: no walk: one application.) -/
theorem Tryz.strconv_Atoi_ok (s : ByteArray) (hmax : s.size ≤ 9223372036854775806) (v : Int) (h : Lib.atoiAll s.data.toList = .ok v) (w : World) :
    Calls Tryz.prog 28 #[.string s] w fun e w' => e = .returned (.tuple #[.int .i64 v, .nilIface]) ∧ (w' = w ∨ ∃ t, w' = Lib.bytesWorld w 5 t) := Any.strconv_Atoi_ok Tryz.laysC172 s hmax v h w
open Go.RowKit in
/-- strconv.Atoi, AT EVERY STRING THAT IS NO DECIMAL NUMERAL (as0 the empty string is none): 0, AND AN ERROR THAT IS NOT nil: a *NumError in a new block N: {Func: "Atoi", Num: s's bytes, Err: what the variable ErrSyntax holds}. Of what was there nothing has turned. (LAID: no walk: one application.) -/
theorem Tryz.strconv_Atoi_none (s : ByteArray) (hlim : s.size ≤ 281474976710656) (h : Lib.atoiAll s.data.toList = Lib.atoiAll []) (ev : Value) (w : World) (hv : w.cell? ⟨2, 0, none⟩ = some ev) (hev : ev = .nilIface ∨ ∃ te pe, ev = .iface te pe) :
    Calls Tryz.prog 28 #[.string s] w fun e w' => ∃ N, e = .returned (.tuple #[.int .i64 (0), .iface 145 (.pointer (some ⟨N, 0, none⟩))]) ∧ w.heap.size ≤ N ∧ w'.heap[N]? = some (.cells #[.string ⟨#[65, 116, 111, 105]⟩, .string s, ev] 170 (0, 0)) ∧ Below w.heap.size w w' := Any.strconv_Atoi_syntax Tryz.laysC172 s hlim h ev w hv hev
open Go.RowKit in
/-- strconv.Atoi, AT EVERY NUMERAL THAT NO int HOLDS ('.range'): THE GREATEST OR THE LEAST int, BY THE SIGN ('Lib.atoiSat'), AND AN ERROR THAT IS NOT nil: a *NumError in a new block N: {Func: "Atoi", Num: s's bytes, Err: what the variable ErrRange holds}. Of what was there nothing has turned. (LAID: no walk: one application.) -/
theorem Tryz.strconv_Atoi_range (s : ByteArray) (hlim : s.size ≤ 281474976710656) (h : Lib.atoiAll s.data.toList = .range) (ev : Value) (w : World) (hv : w.cell? ⟨3, 0, none⟩ = some ev) (hev : ev = .nilIface ∨ ∃ te pe, ev = .iface te pe) :
    Calls Tryz.prog 28 #[.string s] w fun e w' => ∃ N, e = .returned (.tuple #[.int .i64 (Lib.atoiSat s.data.toList), .iface 145 (.pointer (some ⟨N, 0, none⟩))]) ∧ w.heap.size ≤ N ∧ w'.heap[N]? = some (.cells #[.string ⟨#[65, 116, 111, 105]⟩, .string s, ev] 170 (0, 0)) ∧ Below w.heap.size w w' := Any.strconv_Atoi_range Tryz.laysC172 s hlim h ev w hv hev
def Tryz.lays143_ren : Go.Shelf.Ren := ⟨fun | 143 => 62 | 219 => 96 | 217 => 97 | 225 => 124 | 224 => 125 | 267 => 126 | 266 => 127 | 314 => 148 | n => n, fun | 9 => 9 | 3 => 3 | 4 => 4 | 5 => 5 | 46 => 160 | 146 => 186 | 51 => 174 | n => n, fun | 1 => 1 | n => n⟩
theorem Tryz.lays143 : Go.Proofs.Lays.n143 Tryz.prog Tryz.lays143_ren := {
  mixed := by kernel_rfl
  f143 := Tryz.func62.trans (congrArg some (by kernel_rfl))
  f217 := Tryz.func97.trans (congrArg some (by kernel_rfl))
  f219 := Tryz.func96.trans (congrArg some (by kernel_rfl))
  f224 := Tryz.func125.trans (congrArg some (by kernel_rfl))
  f225 := Tryz.func124.trans (congrArg some (by kernel_rfl))
  f266 := Tryz.func127.trans (congrArg some (by kernel_rfl))
  f267 := Tryz.func126.trans (congrArg some (by kernel_rfl))
  f314 := Tryz.func148.trans (congrArg some (by kernel_rfl))
  t3 := Tryz.underlying3
  a3 := Tryz.isAgg3
  z3 := Tryz.sizeOf3
  v3 := Tryz.zeroValue3
  t4 := Tryz.underlying4
  a4 := Tryz.isAgg4
  z4 := Tryz.sizeOf4
  v4 := Tryz.zeroValue4
  t5 := Tryz.underlying5
  a5 := Tryz.isAgg5
  z5 := Tryz.sizeOf5
  v5 := Tryz.zeroValue5
  t9 := Tryz.underlying9
  a9 := Tryz.isAgg9
  z9 := Tryz.sizeOf9
  v9 := Tryz.zeroValue9
  t46 := Tryz.underlying160
  a46 := Tryz.isAgg160
  z46 := Tryz.sizeOf160
  v46 := Tryz.zeroValue160
  t51 := Tryz.underlying174
  a51 := Tryz.isAgg174
  z51 := Tryz.sizeOf174
  v51 := Tryz.zeroValue174
  t146 := Tryz.underlying186
  a146 := Tryz.isAgg186
  z146 := Tryz.sizeOf186
  v146 := Tryz.zeroValue186
  g1 := by kernel_rfl }
open Go.RowKit Go.Lib in
/-- strings.Index: "Index returns the index of the first instance of substr in s, or -1 if substr is not present in s.": AT A substr OF ONE BYTE c: IT RETURNS 'Lib.indexByte s c'; the world is as0 it was. (LAID: no walk: one application.) -/
theorem Tryz.strings_Index_one (s : ByteArray) (c : UInt8) (w : World) :
    Calls Tryz.prog 62 #[.string s, .string ⟨#[c]⟩] w fun e w' => e = .returned (.int .i64 (Lib.indexByte s.data.toList c)) ∧ w' = w := Any.strings_Index_one Tryz.lays143 s c w
def Tryz.lays138_ren : Go.Shelf.Ren := ⟨fun | 138 => 23 | 195 => 60 | 218 => 61 | 143 => 62 | 219 => 96 | 217 => 97 | 225 => 124 | 224 => 125 | 267 => 126 | 266 => 127 | 314 => 148 | n => n, fun | 9 => 9 | 3 => 3 | 4 => 4 | 5 => 5 | 0 => 0 | 46 => 160 | 146 => 186 | 51 => 174 | n => n, fun | 1 => 1 | n => n⟩
theorem Tryz.lays138 : Go.Proofs.Lays.n138 Tryz.prog Tryz.lays138_ren := {
  mixed := by kernel_rfl
  f138 := Tryz.func23.trans (congrArg some (by kernel_rfl))
  f143 := Tryz.func62.trans (congrArg some (by kernel_rfl))
  f195 := Tryz.func60.trans (congrArg some (by kernel_rfl))
  f217 := Tryz.func97.trans (congrArg some (by kernel_rfl))
  f218 := Tryz.func61.trans (congrArg some (by kernel_rfl))
  f219 := Tryz.func96.trans (congrArg some (by kernel_rfl))
  f224 := Tryz.func125.trans (congrArg some (by kernel_rfl))
  f225 := Tryz.func124.trans (congrArg some (by kernel_rfl))
  f266 := Tryz.func127.trans (congrArg some (by kernel_rfl))
  f267 := Tryz.func126.trans (congrArg some (by kernel_rfl))
  f314 := Tryz.func148.trans (congrArg some (by kernel_rfl))
  t0 := Tryz.underlying0
  a0 := Tryz.isAgg0
  z0 := Tryz.sizeOf0
  v0 := Tryz.zeroValue0
  t3 := Tryz.underlying3
  a3 := Tryz.isAgg3
  z3 := Tryz.sizeOf3
  v3 := Tryz.zeroValue3
  t4 := Tryz.underlying4
  a4 := Tryz.isAgg4
  z4 := Tryz.sizeOf4
  v4 := Tryz.zeroValue4
  t5 := Tryz.underlying5
  a5 := Tryz.isAgg5
  z5 := Tryz.sizeOf5
  v5 := Tryz.zeroValue5
  t9 := Tryz.underlying9
  a9 := Tryz.isAgg9
  z9 := Tryz.sizeOf9
  v9 := Tryz.zeroValue9
  t46 := Tryz.underlying160
  a46 := Tryz.isAgg160
  z46 := Tryz.sizeOf160
  v46 := Tryz.zeroValue160
  t51 := Tryz.underlying174
  a51 := Tryz.isAgg174
  z51 := Tryz.sizeOf174
  v51 := Tryz.zeroValue174
  t146 := Tryz.underlying186
  a146 := Tryz.isAgg186
  z146 := Tryz.sizeOf186
  v146 := Tryz.zeroValue186
  g1 := by kernel_rfl }
open Go.RowKit Go.Lib in
/-- strings.Count AT A substr OF ONE BYTE ('hp'): "Count counts the number of non-overlapping instances of substr in s.": IT RETURNS 'Lib.countByte s (that byte)'; the world is as0 it was. ✋ NO CONTRACT HERE YET at an empty substr (utf8.RuneCountInString) or at a longer one (a loop over strings.Index). (LAID: no walk: one application.) -/
theorem Tryz.strings_Count_one (s : ByteArray) (c : UInt8) (w : World) :
    Calls Tryz.prog 23 #[.string s, .string ⟨#[c]⟩] w fun e w' => e = .returned (.int .i64 (Lib.countByte s.data.toList c)) ∧ w' = w := Any.strings_Count_one Tryz.lays138 s c w
def Tryz.lays100_ren : Go.Shelf.Ren := ⟨fun | 100 => 24 | 207 => 63 | n => n, fun | 9 => 9 | 4 => 4 | 3 => 3 | n => n, fun | n => n⟩
theorem Tryz.lays100 : Go.Proofs.Lays.n100 Tryz.prog Tryz.lays100_ren := {
  mixed := by kernel_rfl
  f100 := Tryz.func24.trans (congrArg some (by kernel_rfl))
  f207 := Tryz.func63.trans (congrArg some (by kernel_rfl))
  t3 := Tryz.underlying3
  a3 := Tryz.isAgg3
  z3 := Tryz.sizeOf3
  v3 := Tryz.zeroValue3
  t4 := Tryz.underlying4
  a4 := Tryz.isAgg4
  z4 := Tryz.sizeOf4
  v4 := Tryz.zeroValue4
  t9 := Tryz.underlying9
  a9 := Tryz.isAgg9
  z9 := Tryz.sizeOf9
  v9 := Tryz.zeroValue9 }
open Go.RowKit Go.Lib in
/-- strings.HasSuffix: "HasSuffix reports whether the string s ends with suffix.": IT RETURNS 'Lib.hasSuffix s suffix'; the world is as0 it was. ('hs': no Go string is longer: a caller has it of every string that it was handed.) (LAID: no walk: one application.) -/
theorem Tryz.strings_HasSuffix (s p : ByteArray) (w : World) (hs : s.size ≤ 9223372036854775807) :
    Calls Tryz.prog 24 #[.string s, .string p] w fun e w' => e = .returned (.bool (Lib.hasSuffix s.data.toList p.data.toList)) ∧ w' = w := Any.strings_HasSuffix Tryz.lays100 s p w hs
def Tryz.lays102_ren : Go.Shelf.Ren := ⟨fun | 102 => 27 | 209 => 67 | 207 => 63 | n => n, fun | 9 => 9 | 4 => 4 | 3 => 3 | n => n, fun | n => n⟩
theorem Tryz.lays102 : Go.Proofs.Lays.n102 Tryz.prog Tryz.lays102_ren := {
  mixed := by kernel_rfl
  f102 := Tryz.func27.trans (congrArg some (by kernel_rfl))
  f207 := Tryz.func63.trans (congrArg some (by kernel_rfl))
  f209 := Tryz.func67.trans (congrArg some (by kernel_rfl))
  t3 := Tryz.underlying3
  a3 := Tryz.isAgg3
  z3 := Tryz.sizeOf3
  v3 := Tryz.zeroValue3
  t4 := Tryz.underlying4
  a4 := Tryz.isAgg4
  z4 := Tryz.sizeOf4
  v4 := Tryz.zeroValue4
  t9 := Tryz.underlying9
  a9 := Tryz.isAgg9
  z9 := Tryz.sizeOf9
  v9 := Tryz.zeroValue9 }
open Go.RowKit Go.Lib in
/-- strings.TrimSuffix: "TrimSuffix returns s without the provided trailing suffix string. If s doesn't end with suffix, s is returned unchanged.": IT RETURNS 'Lib.trimSuffix s suffix'; the world is as0 it was. (LAID: no walk: one application.) -/
theorem Tryz.strings_TrimSuffix (s p : ByteArray) (w : World) (hs : s.size ≤ 9223372036854775807) :
    Calls Tryz.prog 27 #[.string s, .string p] w fun e w' => e = .returned (.string ⟨(Lib.trimSuffix s.data.toList p.data.toList).toArray⟩) ∧ w' = w := Any.strings_TrimSuffix Tryz.lays102 s p w hs
end Go.Proofs
end
section
/- verify.Text, walked: what it returns of faults that lie in memory. -/
namespace Go.Proofs
open Go.Shelf Go.RowKit Go.Sort
/-- The words of the kinds. -/
def nm12 : List (List UInt8) := [[105, 110, 115, 105, 100, 101], [103, 97, 112], [102, 97, 114], [114, 111, 111, 116], [117, 110, 109, 97, 114, 107, 101, 100], [109, 97, 114, 107, 101, 100], [99, 111, 108, 111, 117, 114], [99, 111, 117, 110, 116], [102, 111, 114, 103, 111, 116, 116, 101, 110], [99, 97, 114, 100], [108, 111, 115, 116], [99, 104, 97, 110, 103, 101, 100]]
abbrev Ft := Int × Int × Int
def ftLine (f : Ft) : List UInt8 := nm12.getD f.1.toNat [] ++ [32] ++ Lib.itoa f.2.1 ++ [32] ++ Lib.itoa f.2.2 ++ [10]
def ftText (L : List Ft) : List UInt8 := L.flatMap ftLine
def ftOk (f : Ft) : Prop := 0 ≤ f.1 ∧ f.1 < 12
def in64 (n : Int) : Prop := -9223372036854775808 ≤ n ∧ n ≤ 9223372036854775807
theorem grow_below (w : World) (k : Nat) (os : Array Obj) : Below w.heap.size w (grow (w.drewN k) os) := by
  refine ⟨rfl, rfl, rfl, by simp [grow, World.drewN], fun i hi => ?_⟩
  show (w.heap ++ os)[i]? = _
  rw [Array.getElem?_append_left hi]
theorem Tryz.itoaC {n : Int} (h : in64 n) {w : World} (htab : Lib.TabIs Tryz.prog w "internal/strconv.uint64pow10" .u64 Lib.pow10Tab) :
    Calls Tryz.prog 12 #[.int .i64 n] w fun e w' => e = .returned (.string ⟨(Lib.itoa n).toArray⟩) ∧ Below w.heap.size w w' := by
  refine (Tryz.strconv_Itoa n h.1 h.2 w htab).mono ?_
  rintro e w' ⟨rfl, k, os, rfl⟩
  exact ⟨rfl, grow_below w k os⟩
theorem isBuilder_below {T e : TypeId} {B b : Nat} {bs : List Value} {w w' : World} (h : Lib.IsBuilderF T e B b bs w) (hb : Below w.heap.size w w') : Lib.IsBuilderF T e B b bs w' := by
  have key : ∀ p, Lib.BuilderAtF T e B b p bs w → Lib.BuilderAtF T e B b p bs w' := by
    rintro p ⟨hB, v, hv, hown, hne⟩
    exact ⟨hB, v, (hb.block b (Array.getElem?_eq_some_iff.1 hv).1).trans hv, hown.kept (row := none) ⟨hb.os, hb.tape, hb.output, hb.size, fun k hk _ => hb.block k hk⟩ (by
      rcases hown.2 with ⟨rfl, _⟩ | ⟨g, cap, cur, fz, rfl, _⟩
      · exact .inl rfl
      · exact .inr (by simp [Value.ownBlock])), hne⟩
  exact h.imp (key _) (key _)
theorem tab_below {P : Program} {w w' : World} {n : String} {k : IntKind} {zs : List Int} (h : Lib.TabIs P w n k zs) (hb : Below w.heap.size w w') : Lib.TabIs P w' n k zs := by
  unfold Lib.TabIs World.var? at h ⊢
  cases hg : P.globalNamed n with
  | none => rw [hg] at h; cases h
  | some g =>
    rw [hg] at h
    simp only [Option.bind_some] at h ⊢
    cases ho : w.heap[g]? with
    | none => rw [ho] at h; cases h
    | some o => rw [hb.block g (Array.getElem?_eq_some_iff.1 ho).1, ho]; rw [ho] at h; exact h
theorem cell_below {w w' : World} {a : Addr} {v : Value} (h : w.cell? a = some v) (hb : Below w.heap.size w w') : w'.cell? a = some v := (hb.cell (World.block_lt_of_cell? _ _ h)).trans h
/-- What the region that writes a line reads and keeps. -/
abbrev TS (m : Nat) (K At Ix : Int) (N : List UInt8) (w w' : World) : Prop :=
  w'.cell? ⟨m, 0, none⟩ = some (.int .i64 K) ∧ w'.cell? ⟨m, 1, none⟩ = some (.int .i64 At) ∧ w'.cell? ⟨m, 2, none⟩ = some (.int .i64 Ix) ∧ w'.cell? ⟨0, K.toNat, none⟩ = some (.string ⟨N.toArray⟩) ∧
    Lib.TabIs Tryz.prog w' "internal/strconv.uint64pow10" .u64 Lib.pow10Tab ∧ w'.heap[m]? = some (.cells #[.int .i64 K, .int .i64 At, .int .i64 Ix] 37 (0, 0)) ∧ Below w.heap.size w w' ∧ w.heap.size < w'.heap.size ∧ w.heap.size < m ∧ 0 < w.heap.size
theorem TS.keep {m : Nat} {K At Ix : Int} {N : List UInt8} {w w1 w2 : World} (h : TS m K At Ix N w w1) (hb : Below w1.heap.size w1 w2) : TS m K At Ix N w w2 := by
  obtain ⟨a, b, c, d, e, f, g, i, j⟩ := h
  exact ⟨cell_below a hb, cell_below b hb, cell_below c hb, cell_below d hb, tab_below e hb, (hb.block m (Array.getElem?_eq_some_iff.1 f).1).trans f, g.trans (hb.mono (Nat.le_of_lt i)), Nat.lt_of_lt_of_le i hb.size, j⟩
theorem TS.keep2 {m : Nat} {K At Ix : Int} {N : List UInt8} {w w1 w2 : World} (h : TS m K At Ix N w w1) (htab : Lib.TabIs Tryz.prog w "internal/strconv.uint64pow10" .u64 Lib.pow10Tab) (hb : Below w.heap.size w1 w2) (hk : Lib.OthersKept 5 (some w.heap.size) w1 w2) : TS m K At Ix N w w2 := by
  obtain ⟨a, b, c, d, e, f, g, i, j, k⟩ := h
  have f2 := hk m _ f (fun e => by cases e; omega) (fun _ _ e => by cases e)
  have c2 : ∀ o, w2.cell? ⟨m, o, none⟩ = w1.cell? ⟨m, o, none⟩ := fun o => by rw [World.cell?, World.cell?, f2, f]
  exact ⟨(c2 _).trans a, (c2 _).trans b, (c2 _).trans c, (hb.cell k).trans d, tab_below htab (g.trans hb), f2, g.trans hb, Nat.lt_of_lt_of_le i hb.size, j, k⟩
theorem decDigits_len : ∀ (k u : Nat), u < 10 ^ k → (Lib.decDigits u).length ≤ k ∨ k = 0
  | 0, _, _ => .inr rfl
  | k + 1, u, h => by
    left
    rw [Lib.decDigits]
    split
    · simp
    · rename_i hu
      have h1 : u / 10 < 10 ^ k := by rw [Nat.pow_succ] at h; omega
      rcases decDigits_len k (u / 10) h1 with h2 | rfl
      · simp; omega
      · simp at h; omega
theorem itoa_len {n : Int} (h1 : -9223372036854775808 ≤ n) (h2 : n ≤ 9223372036854775807) : (Lib.itoa n).length ≤ 20 := by
  have h : ∀ u : Nat, u ≤ 9223372036854775808 → (Lib.decDigits u).length ≤ 19 := fun u hu => by
    rcases decDigits_len 19 u (by omega) with h | h
    · exact h
    · cases h
  unfold Lib.itoa
  split
  · have := h n.natAbs (by omega)
    simp; omega
  · have := h n.toNat (by omega)
    omega
theorem nm12_len {k : Nat} (hk : k < 12) : (nm12.getD k []).length ≤ 9 := by
  match k, hk with
  | 0, _ | 1, _ | 2, _ | 3, _ | 4, _ | 5, _ | 6, _ | 7, _ | 8, _ | 9, _ | 10, _ | 11, _ => decide
theorem TS.sz {m : Nat} {K At Ix : Int} {N : List UInt8} {w w1 : World} (h : TS m K At Ix N w w1) : w.heap.size < w1.heap.size := h.2.2.2.2.2.2.2.1
theorem nm12_le (k : Nat) : (nm12.getD k []).length ≤ 9 := by
  by_cases hk : k < 12
  · exact nm12_len hk
  · rw [List.getD_eq_getElem?_getD, List.getElem?_eq_none (show nm12.length ≤ k from Nat.le_of_not_lt hk)]; simp
theorem ftLine_len {f : Ft} (h : in64 f.2.1 ∧ in64 f.2.2) : (ftLine f).length ≤ 52 := by
  have h1 := nm12_le f.1.toNat
  have h2 := itoa_len h.1.1 h.1.2
  have h3 := itoa_len h.2.1 h.2.2
  unfold ftLine
  simp only [List.length_append, List.length_cons, List.length_nil]
  omega
theorem ftText_len : ∀ {L : List Ft}, (∀ f ∈ L, in64 f.2.1 ∧ in64 f.2.2) → (ftText L).length ≤ 52 * L.length
  | [], _ => Nat.le_refl _
  | f :: L, h => by
    have h1 := ftLine_len (h f (by simp))
    have h2 := ftText_len (L := L) fun g hg => h g (by simp [hg])
    unfold ftText at h2 ⊢
    rw [List.flatMap_cons, List.length_append, List.length_cons]
    omega
theorem TS.tab {m : Nat} {K At Ix : Int} {N : List UInt8} {w w1 : World} (h : TS m K At Ix N w w1) : Lib.TabIs Tryz.prog w1 "internal/strconv.uint64pow10" .u64 Lib.pow10Tab := h.2.2.2.2.1
theorem Tryz.lineC {N A I T : List UInt8} {w w1 : World} (hb : Lib.IsBuilderF 35 5 w.heap.size w.heap.size (Lib.byteCells T) w1) (hs : w.heap.size < w1.heap.size) (hl : T.length ≤ 5200000 ∧ N.length ≤ 9 ∧ A.length ≤ 20 ∧ I.length ≤ 20) :
    Calls Tryz.prog 11 #[.pointer (some ⟨w.heap.size, 0, none⟩), .string (⟨N.toArray⟩ ++ ⟨#[32]⟩ ++ ⟨A.toArray⟩ ++ ⟨#[32]⟩ ++ ⟨I.toArray⟩ ++ ⟨#[10]⟩)] w1 fun e w' => (∃ n, e = .returned (.tuple #[n, .nilIface])) ∧
      Aside (Lib.IsBuilderF 35 5 w.heap.size w.heap.size (Lib.byteCells (T ++ (N ++ [32] ++ A ++ [32] ++ I ++ [10]))) w') ∧ Below w.heap.size w1 w' ∧ Lib.OthersKept 5 (some w.heap.size) w1 w' := by
  have e : (⟨N.toArray⟩ ++ ⟨#[32]⟩ ++ ⟨A.toArray⟩ ++ ⟨#[32]⟩ ++ ⟨I.toArray⟩ ++ ⟨#[10]⟩ : ByteArray) = ⟨(N ++ [32] ++ A ++ [32] ++ I ++ [10]).toArray⟩ := by
    apply ByteArray.ext
    simp [ByteArray.data_append]
  rw [e]
  refine (Tryz.writeString w.heap.size w.heap.size _ _ _ hb ?_ (Nat.le_of_lt hs)).mono ?_
  · rw [Lib.byteCells_length]
    simp [ByteArray.size]
    omega
  · rintro e w' ⟨rfl, h1, h2, h3⟩
    have h1' : Lib.BuilderAtF 35 5 w.heap.size w.heap.size (.pointer (some ⟨w.heap.size, 0, none⟩)) (Lib.byteCells (T ++ (N ++ [32] ++ A ++ [32] ++ I ++ [10]))) w' := by
      rw [Lib.byteCells_append]
      exact h1
    exact ⟨⟨_, rfl⟩, .inr h1', h2, h3⟩
set_option maxHeartbeats 4000000 in
set_option maxRecDepth 100000 in
theorem Tryz.text (a : Option Addr) (n cap : Nat) (L : List Ft) (hn : L.length = n) (hn4 : n ≤ 100000) (hr : ∀ f ∈ L, in64 f.2.1 ∧ in64 f.2.2) (w : World)
    (hc : ∀ j (hj : j < L.length), ∃ b off, a = some ⟨b, off, none⟩ ∧ w.cell? ⟨b, off + j * 3, none⟩ = some (.int .i64 L[j].1) ∧ w.cell? ⟨b, off + j * 3 + 1, none⟩ = some (.int .i64 L[j].2.1) ∧ w.cell? ⟨b, off + j * 3 + 2, none⟩ = some (.int .i64 L[j].2.2))
    (hnm : ∀ k, k < 12 → w.cell? ⟨0, k, none⟩ = some (.string ⟨(nm12.getD k []).toArray⟩)) (htab : Lib.TabIs Tryz.prog w "internal/strconv.uint64pow10" .u64 Lib.pow10Tab) (Q : Ending → World → Prop)
    (h1 : (∀ f ∈ L, ftOk f) → ∀ w', Below w.heap.size w w' → Q (.returned (.tuple #[.string ⟨(ftText L).toArray⟩, .int .i64 0])) w')
    (h2 : (∃ f ∈ L, ¬ ftOk f) → ∀ w', Below w.heap.size w w' → Q (.returned (.tuple #[.string ⟨#[]⟩, .int .i64 2])) w') :
    Calls Tryz.prog 5 #[.slice a n cap] w Q := by
  have hB0 : Lib.IsBuilderF 35 5 w.heap.size w.heap.size (Lib.byteCells (ftText (L.take 0))) (w.alloc (.cells #[.pointer none, .slice none 0 0] 35)) := Lib.IsBuilderF.of (Lib.fresh_isBuilder 35 5 w)
  have b0 : Below w.heap.size w (w.alloc (.cells #[.pointer none, .slice none 0 0] 35)) := (Below.refl _ w).alloc (Nat.le_refl _) _
  have A : Aside ((∀ f ∈ L, in64 f.2.1 ∧ in64 f.2.2) ∧ (∀ j (hj : j < L.length), ∃ b off, a = some ⟨b, off, none⟩ ∧ w.cell? ⟨b, off + j * 3, none⟩ = some (.int .i64 L[j].1) ∧ w.cell? ⟨b, off + j * 3 + 1, none⟩ = some (.int .i64 L[j].2.1) ∧ w.cell? ⟨b, off + j * 3 + 2, none⟩ = some (.int .i64 L[j].2.2)) ∧
    (∀ k, k < 12 → w.cell? ⟨0, k, none⟩ = some (.string ⟨(nm12.getD k []).toArray⟩)) ∧ Lib.TabIs Tryz.prog w "internal/strconv.uint64pow10" .u64 Lib.pow10Tab ∧ ((∀ f ∈ L, ftOk f) → ∀ w', Below w.heap.size w w' → Q (.returned (.tuple #[.string ⟨(ftText L).toArray⟩, .int .i64 0])) w') ∧
    ((∃ f ∈ L, ¬ ftOk f) → ∀ w', Below w.heap.size w w' → Q (.returned (.tuple #[.string ⟨#[]⟩, .int .i64 2])) w') ∧ L.length = n ∧ n ≤ 100000) := ⟨hr, hc, hnm, htab, h1, h2, hn, hn4⟩
  clear hr hc hnm htab h1 h2 hn hn4
  go_enter Tryz.func5, Tryz.ntmps5
  go_wp2
  go_loopg [9] n (fun k x wr => ∃ j : Nat, x = .int .i64 (j : Int) ∧ j ≤ n ∧ k = n - j ∧ (∀ i (hi : i < L.length), i < j → ftOk L[i]) ∧ Lib.IsBuilderF 35 5 w.heap.size w.heap.size (Lib.byteCells (ftText (L.take j))) wr ∧ Below w.heap.size w wr ∧ w.heap.size < wr.heap.size)
  case atStart =>
    exact ⟨0, rfl, Nat.zero_le _, rfl, fun i _ h => absurd h (Nat.not_lt_zero i), hB0, b0, by simp⟩
  case round =>
    obtain ⟨j, rfl, hj, rfl, hrest⟩ := hrel
    obtain ⟨hr, hc, hnm, htab, h1, h2, hn, hn4⟩ := A.out
    by_cases hlt : j < n
    · have hlt' : (j : Int) < (n : Int) := by omega
      have hj0 : (0 : Int) ≤ (j : Int) := by omega
      obtain ⟨f, hf⟩ : ∃ f, f = L[j]'(by omega) := ⟨_, rfl⟩
      obtain ⟨K, At, Ix⟩ := f
      obtain ⟨b, off, rfl, c0, c1, c2⟩ := hc j (by omega)
      rw [← hf] at c0 c1 c2
      have hrj := hr _ (List.getElem_mem (show j < L.length by omega))
      rw [← hf] at hrj
      have d0 : wr.cell? ⟨b, off + j * 3, none⟩ = some (.int .i64 K) := (hrest.2.2.1.cell (World.block_lt_of_cell? _ _ c0)).trans c0
      have d1 : wr.cell? ⟨b, off + j * 3 + 1, none⟩ = some (.int .i64 At) := (hrest.2.2.1.cell (World.block_lt_of_cell? _ _ c1)).trans c1
      have d2 : wr.cell? ⟨b, off + j * 3 + 2, none⟩ = some (.int .i64 Ix) := (hrest.2.2.1.cell (World.block_lt_of_cell? _ _ c2)).trans c2
      have C : Aside ((∀ i (hi : i < L.length), i < j → ftOk L[i]) ∧ Lib.IsBuilderF 35 5 w.heap.size w.heap.size (Lib.byteCells (ftText (L.take j))) wr ∧ Below w.heap.size w wr ∧ w.heap.size < wr.heap.size) := hrest
      have D : Aside (in64 At ∧ in64 Ix) := hrj
      have E : Aside (L[j]? = some (K, At, Ix)) := by rw [hf]; exact List.getElem?_eq_getElem _
      have F : Aside (j < n ∧ j ≤ n) := ⟨hlt, hj⟩
      have bad : ¬ ftOk (K, At, Ix) → ∀ W', Below w.heap.size w W' → Q (.returned (.tuple #[.string ⟨#[]⟩, .int .i64 2])) W' := fun hk => h2 ⟨_, by rw [hf]; exact List.getElem_mem _, hk⟩
      have bq : ∀ o, Below w.heap.size w (wr.alloc o) := fun o => hrest.2.2.1.alloc hrest.2.2.1.size o
      clear hrest hr hc hnm htab h1 h2 hn hn4 c0 c1 c2 hrj hf hlt hj hB0 b0
      by_cases hk0 : K < 0
      · go_wp2
        exact bad (fun h => by have := h.1; simp only at this; omega) _ (bq _)
      · by_cases hk1 : 12 ≤ K
        · go_wp2
          exact bad (fun h => by have := h.2; simp only at this; omega) _ (bq _)
        · go_wp2
          obtain ⟨hok, hbd, hbw, hsz⟩ := C.out
          obtain ⟨hrA, hrI⟩ := D.out
          have hnm := A.out.2.2.1
          have htab := A.out.2.2.2.1
          obtain ⟨wb, hwb⟩ : ∃ wb, wb = wr.alloc (Obj.cells #[Value.int IntKind.i64 K, Value.int IntKind.i64 At, Value.int IntKind.i64 Ix] 37) := ⟨_, rfl⟩
          rw [← hwb]
          have bb : Below wr.heap.size wr wb := by rw [hwb]; exact (Below.refl _ _).alloc (Nat.le_refl _) _
          have e0 : wb.cell? ⟨wr.heap.size, 0, none⟩ = some (.int .i64 K) := by rw [hwb, World.cell?, heap_alloc_new]; rfl
          have e1 : wb.cell? ⟨wr.heap.size, 1, none⟩ = some (.int .i64 At) := by rw [hwb, World.cell?, heap_alloc_new]; rfl
          have e2 : wb.cell? ⟨wr.heap.size, 2, none⟩ = some (.int .i64 Ix) := by rw [hwb, World.cell?, heap_alloc_new]; rfl
          have hB1 := isBuilder_below hbd bb
          have bw1 : Below w.heap.size w wb := hbw.trans (bb.mono (Nat.le_of_lt hsz))
          have sz1 : w.heap.size < wb.heap.size := Nat.lt_of_lt_of_le hsz bb.size
          obtain ⟨N, hN⟩ : ∃ N, N = nm12.getD K.toNat [] := ⟨_, rfl⟩
          have e3 : wb.cell? ⟨0, K.toNat, none⟩ = some (.string ⟨N.toArray⟩) := by
            have := hnm K.toNat (by omega)
            rw [← hN] at this
            exact (bw1.cell (World.block_lt_of_cell? _ _ this)).trans this
          have t1 := tab_below htab bw1
          have hK0 : 0 ≤ K := by omega
          have hK1 : K < 12 := by omega
          have hNl : N.length ≤ 9 := by rw [hN]; exact nm12_len (by omega)
          have hAl := itoa_len hrA.1 hrA.2
          have hIl := itoa_len hrI.1 hrI.2
          have g1 : ¬ (9223372036854775807 < N.length + 1) := by omega
          have g2 : ¬ (9223372036854775807 < N.length + 1 + (Lib.itoa At).length) := by omega
          have g3 : ¬ (9223372036854775807 < N.length + 1 + (Lib.itoa At).length + 1) := by omega
          have g4 : ¬ (9223372036854775807 < N.length + 1 + (Lib.itoa At).length + 1 + (Lib.itoa Ix).length) := by omega
          have g5 : ¬ (9223372036854775807 < N.length + 1 + (Lib.itoa At).length + 1 + (Lib.itoa Ix).length + 1) := by omega
          have G : Aside (N = nm12.getD K.toNat []) := hN
          have hTl : Aside ((ftText (L.take j)).length ≤ 5200000 ∧ N.length ≤ 9 ∧ (Lib.itoa At).length ≤ 20 ∧ (Lib.itoa Ix).length ≤ 20) := by
            refine ⟨?_, hNl, hAl, hIl⟩
            have := ftText_len (L := L.take j) fun f hf => A.out.1 f (List.mem_of_mem_take hf)
            have h1 := A.out.2.2.2.2.2.2.1
            have h2 := A.out.2.2.2.2.2.2.2
            rw [List.length_take] at this
            omega
          have e4 : wb.heap[wr.heap.size]? = some (.cells #[.int .i64 K, .int .i64 At, .int .i64 Ix] 37 (0, 0)) := by rw [hwb, heap_alloc_new]
          have w0 : 0 < w.heap.size := World.block_lt_of_cell? _ _ (hnm 0 (by omega))
          have hS : TS wr.heap.size K At Ix N w wb.drew := TS.keep (w1 := wb) ⟨e0, e1, e2, e3, t1, e4, bw1, sz1, hsz, w0⟩ (Below.refl _ _).drew
          have hB1 : Aside (Lib.IsBuilderF 35 5 w.heap.size w.heap.size (Lib.byteCells (ftText (L.take j))) wb.drew) := isBuilder_below hB1 (Below.refl _ _).drew
          clear hwb hnm htab hbd hbw hok hsz e0 e1 e2 e3 t1 bw1 sz1 bb e4 w0 hNl hAl hIl hN hrA hrI
          go_region_held3 (fun w' => w'.cell? ⟨wr.heap.size, 0, none⟩ = some (.int .i64 K) ∧ w'.cell? ⟨wr.heap.size, 1, none⟩ = some (.int .i64 At) ∧ w'.cell? ⟨wr.heap.size, 2, none⟩ = some (.int .i64 Ix) ∧ w'.cell? ⟨0, K.toNat, none⟩ = some (.string ⟨N.toArray⟩) ∧
              Lib.TabIs Tryz.prog w' "internal/strconv.uint64pow10" .u64 Lib.pow10Tab ∧ w'.heap[wr.heap.size]? = some (.cells #[.int .i64 K, .int .i64 At, .int .i64 Ix] 37 (0, 0)) ∧ Below w.heap.size w w' ∧ w.heap.size < w'.heap.size ∧ w.heap.size < wr.heap.size ∧ 0 < w.heap.size)
            (first | exact hS | exact TS.keep (by assumption) (by assumption) | exact TS.keep2 (by assumption) A.out.2.2.2.1 (by assumption) (by assumption))
            (first
              | (go_at_call 12; refine (Tryz.itoaC (by first | exact D.out.1 | exact D.out.2) (TS.tab (by assumption))).mono ?_; rintro e w' ⟨rfl, hbb⟩)
              | (go_at_call 11; refine (Tryz.lineC (N := N) (A := Lib.itoa At) (I := Lib.itoa Ix) (T := ftText (L.take j)) (w := w) (isBuilder_below (isBuilder_below hB1.out (by assumption)) (by assumption)) (TS.sz (m := wr.heap.size) (K := K) (At := At) (Ix := Ix) (N := N) (by assumption)) hTl).mono ?_; rintro e w' ⟨⟨nn, rfl⟩, hw1, hw2, hw3⟩))
          rename_i hh
          obtain ⟨_, _, _, _, _, _, hbw2, sz2, _, _⟩ := hh
          go_wp2
          go_roundg (n - (j + 1))
          case measure => have := F.out.1; omega
          case rel =>
            refine ⟨j + 1, ?_, F.out.1, rfl, ?_, ?_, hbw2, sz2⟩
            · have h1 := F.out.1
              have h2 := A.out.2.2.2.2.2.2.2
              congr 1
              unfold wrap64
              omega
            · intro i hi hij
              by_cases e : i = j
              · subst e
                have := E.out
                rw [List.getElem?_eq_getElem hi] at this
                rw [Option.some.inj this]
                exact ⟨hK0, hK1⟩
              · exact C.out.1 i hi (by omega)
            · have e := hw1.out
              have : ftText (L.take (j + 1)) = ftText (L.take j) ++ (N ++ [32] ++ Lib.itoa At ++ [32] ++ Lib.itoa Ix ++ [10]) := by
                rw [List.take_add_one, E.out, G.out]
                unfold ftText
                rw [List.flatMap_append]
                simp [ftLine]
              rw [this]
              exact e
    · have hge : ¬ (j : Int) < (n : Int) := by omega
      have e : ftText (L.take j) = ftText L := by rw [List.take_of_length_le (by omega)]
      obtain ⟨hok, hbd, hbw, hsz⟩ := hrest
      rw [e] at hbd
      have T1 : Aside (∀ W', Below w.heap.size w W' → Q (.returned (.tuple #[.string ⟨(ftText L).toArray⟩, .int .i64 0])) W') := h1 fun f hf => by
        obtain ⟨i, hi, rfl⟩ := List.getElem_of_mem hf
        exact hok i hi (by omega)
      clear hr hc hnm htab h1 h2 hn hn4 hj hlt e hok
      go_wp2_with (go_at_call 13; refine (Tryz.Builder_String_any_k w.heap.size w.heap.size (ftText L) _ hbd (Nat.le_of_lt hsz)).mono ?_; rintro e W2 ⟨rfl, _, b2, _⟩)
      exact T1.out _ (hbw.trans b2)
end Go.Proofs
end
