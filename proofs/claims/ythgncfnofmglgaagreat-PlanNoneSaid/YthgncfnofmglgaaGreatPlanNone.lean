/- For every input PlanNone returns true and leaves its arguments as they were: no condition. -/
import Derived.Test.YthgncfnofmglgaaGreatRows
import Derived.Test.YthgncfnofmglgaaGreatPlanRun
import Derived.Test.YthgncfnofmglgaaGreatPlanFacts
import Derived.WalkKit
import Derived.ProofKit
namespace Go.Proofs.YthgncfnofmglgaaGreat.planNone
open Go.ChangeShapes Go.WideShapes Go.ChangeAt Go.RowKit Go.Dust

set_option maxRecDepth 100000 in
theorem lifted (os : Os) (started : os.Started) (H : Type) (enc : TypeId × Value → H) :
    ReturnsInHanded {} Tryz.checked os 3 .any (Rows.planNoneSpec.pre6 enc Tryz.prog Tryz.f3 Rows.planNoneRow.domain false) (Rows.planNoneSpec.post enc Tryz.prog Tryz.f3 false true false false) := by
  refine returnsInHanded_of_change (C := Tryz.checked) own started (by kernel_rfl) Tryz.func3
    (ChangeSpec.witness6 (enc := enc) (C := Tryz.checked) false ⟨#[], #[.int .i64 0, .int .i64 0, .int .i64 0, .int .i64 0, .agg #[.int .i64 0, .int .i64 0, .int .i64 0]], []⟩ 8 (by kernel_rfl) (by kernel_rfl) (by kernel_rfl) (by kernel_rfl)) ?_
  intro W base args ds gs before hval0 hW hcnd _
  have hval : ∀ (j : Nat) t v, Tryz.f3.params[j]? = some t → args[j]? = some v → Value.okWide Tryz.prog W .any base t v := hval0
  have hW' := hW
  obtain ⟨p, q, hA0, hV, rfl, hfz, hnd⟩ := hW
  have hA : DataW.TrodAll enc Tryz.prog W 0 (fun _ => true) true Tryz.f3.params.toList args.toList ds p := hA0
  rw [Tryz.params3] at hA hval
  obtain ⟨v0, vs0, d0, ds0, p0, q0, hargs, rfl, rfl, h0, r0⟩ := trodAll_cons hA
  obtain ⟨v1, vs1, d1, ds1, p1, q1, rfl, rfl, rfl, h1, r1⟩ := trodAll_cons r0
  obtain ⟨v2, vs2, d2, ds2, p2, q2, rfl, rfl, rfl, h2, r2⟩ := trodAll_cons r1
  obtain ⟨v3, vs3, d3, ds3, p3, q3, rfl, rfl, rfl, h3, r3⟩ := trodAll_cons r2
  obtain ⟨v4, vs4, d4, ds4, p4, q4, rfl, rfl, rfl, h4, r4⟩ := trodAll_cons r3
  obtain ⟨rfl, rfl, rfl⟩ := trodAll_nil r4
  obtain rfl : args = #[v0, v1, v2, v3, v4] := by apply Array.toList_inj.1; simpa using hargs
  obtain ⟨x, hx⟩ := vr_int Tryz.underlying3 (hval 0 3 v0 rfl rfl)
  obtain ⟨y, hy⟩ := vr_int Tryz.underlying3 (hval 1 3 v1 rfl rfl)
  obtain ⟨z, hz⟩ := vr_int Tryz.underlying3 (hval 2 3 v2 rfl rfl)
  obtain ⟨u, hu⟩ := vr_int Tryz.underlying3 (hval 3 3 v3 rfl rfl)
  obtain ⟨l, _, hl, hs⟩ := vr_ints Tryz.underlying23 shape (by simp [Tryz.underlying3]) (hval 4 23 v4 rfl rfl)
  rw [shapeCells] at hl
  obtain ⟨a, b, c, rfl⟩ : ∃ a b c, l = [a, b, c] := by
    match l, hl with
    | [a, b, c], _ => exact ⟨a, b, c, rfl⟩
  refine (calls_true mixed Tryz.func3 body (.cons hx (.cons hy (.cons hz (.cons hu (.cons hs .nil))))) (runs x y z u a b c)).mono fun e W' ⟨he, hb⟩ => ?_
  refine ⟨_, he, post_true laid (tb := 4) (fun t ht => ?_) rfl (by kernel_rfl) Tryz.underlying4 (fun ds hds => ?_) hW' hb⟩
  · have := List.all_eq_true.1 pars t ht
    simpa using this
  · match ds, hds with
    | [_, _, _, _, _], _ => rfl

theorem proved : Rows.PlanNoneSaid :=
  OpenClaim.holds_of_wide (p := Tryz.pinned) (s := Rows.planNoneSpec) (c := Rows.planNoneRow) 3 Tryz.f3 rfl rfl rfl rfl rfl rfl rfl ⟨rfl, rfl, rfl, rfl, rfl⟩ rfl rfl rfl rfl rfl named Tryz.func3 closed
    (of_decide_eq_true (by kernel_rfl)) (by unfold Func.isWrapper; first | (rw [if_pos (by decide +kernel)]; kernel_rfl) | (rw [if_neg (by decide +kernel)]; exact ⟨rfl, rfl⟩))
    (fun os started H enc _ => lifted os started H enc)
#print axioms proved
end Go.Proofs.YthgncfnofmglgaaGreat.planNone
