/- The run of PlanNone, whatever the arguments. -/
import Derived.Test.YthgncfnofmglgaaGreatRows
import Derived.Test.YthgncfnofmglgaaGreatDv2
import Derived.WalkKit
import Derived.ProofKit
namespace Go.Proofs.YthgncfnofmglgaaGreat.planNone
open Go.ChangeShapes Go.WideShapes Go.ChangeAt Go.RowKit Go.Dust

theorem own : ownKnob Tryz.prog.godebug = none := by kernel_rfl
theorem laid : laidOutB Tryz.prog = true := by kernel_rfl
theorem mixed : Tryz.prog.follows .mixedOrders = true := by kernel_rfl
theorem body : Tryz.f3.body.isSome = true := by kernel_rfl
theorem pars : Tryz.f3.params.toList.all (fun t => Tryz.prog.readableRec t && decide (t < Tryz.prog.types.size)) = true := by kernel_rfl
theorem shape : Tryz.prog.cellTypes Tryz.prog.depth 23 = some [3, 3, 3] := by kernel_rfl
theorem shapeCells : Tryz.prog.cellsOf 23 = 3 := by kernel_rfl
theorem okAll : okAllK Tryz.prog.funcs.toList = true := by kernel_rfl
/-- The run, whatever the arguments. -/
theorem run (x y z w a b c : Value) : goK (envF Tryz.prog) 100000 (.call 3 [x, y, z, w, .agg ⟨[a, b, c]⟩]) st₀ noKC isTrueK = true := by kernel_rfl
theorem runs (x y z w a b c : Value) : isTrue (callA (env Tryz.prog) 100000 3 [x, y, z, w, .agg ⟨[a, b, c]⟩] st₀) = true := by
  rw [env_eq okAll]
  exact isTrue_of (run x y z w a b c)

end Go.Proofs.YthgncfnofmglgaaGreat.planNone
