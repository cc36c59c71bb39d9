/- Arguments that are structs of integers. -/
import Derived.Test.YthgncfnofmglgaaGreatDz
import Derived.OpenShut
namespace Go.Dust
open Go.ChangeShapes Go.RowKit Go.WideShapes

/-- A struct of integers is named as it lies. -/
theorem vr_ints {P : Program} {w : World} {r : Reach} {b : Nat} {t : TypeId} {v : Value} {fs : Array Field} {ts : List TypeId} (ht : P.underlying t = some (.struct fs)) (hc : P.cellTypes P.depth t = some ts)
    (hk : ∀ u ∈ ts, ∃ k, P.underlying u = some (.int k)) (h : Value.okWide P w r b t v) : ∃ l, v = .agg ⟨l⟩ ∧ l.length = P.cellsOf t ∧ VR ι₀ (.agg ⟨l⟩) v := by
  simp only [Value.okWide, ht] at h
  obtain ⟨cs, rfl, hn, ts', h1, _, h2⟩ := h
  rw [hc] at h1; cases h1
  rcases cs with ⟨l⟩
  refine ⟨l, rfl, hn, .agg rfl fun i x y hx hy => ?_⟩
  rw [hx] at hy; cases hy
  obtain ⟨u, hu, hw⟩ := h2 i x hx
  obtain ⟨k, hku⟩ := hk u (List.mem_of_getElem? hu)
  simp only [Cell.okWide, hku] at hw
  cases x <;> simp_all [Cell.ok]
  exact .int _ _
end Go.Dust
