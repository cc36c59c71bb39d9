/- For every input VerifyNone returns true and leaves its arguments as they were: no condition. -/
import Derived.Test.YtgaleekleapipaaGreatRows
import Derived.Test.YtgaleekleapipaaGreatDv
import Derived.WalkKit
import Derived.ProofKit
namespace Go.Proofs.YtgaleekleapipaaGreat.verifyNone
open Go.ChangeShapes Go.WideShapes Go.ChangeAt Go.RowKit Go.Dust

theorem own : ownKnob Tryz.prog.godebug = none := by kernel_rfl
theorem laid : laidOutB Tryz.prog = true := by kernel_rfl
theorem mixed : Tryz.prog.follows .mixedOrders = true := by kernel_rfl
theorem body : Tryz.f3.body.isSome = true := by kernel_rfl
theorem pars : Tryz.f3.params.toList.all (fun t => Tryz.prog.readableRec t && decide (t < Tryz.prog.types.size)) = true := by kernel_rfl
/-- The run, whatever the arguments. -/
theorem run (x y : Value) : isTrue (callA (env Tryz.prog) 100000 3 [x, y] st₀) = true := by kernel_rfl

set_option maxRecDepth 100000 in
theorem lifted (os : Os) (started : os.Started) (H : Type) (enc : TypeId × Value → H) :
    ReturnsInHanded {} Tryz.checked os 3 .any (Rows.verifyNoneSpec.pre6 enc Tryz.prog Tryz.f3 Rows.verifyNoneRow.domain false) (Rows.verifyNoneSpec.post enc Tryz.prog Tryz.f3 false true false false) := by
  refine returnsInHanded_of_change (C := Tryz.checked) own started (by kernel_rfl) Tryz.func3
    (ChangeSpec.witness6 (enc := enc) (C := Tryz.checked) false ⟨#[], #[.int .i64 0, .slice none 0 0], []⟩ 8 (by kernel_rfl) (by kernel_rfl) (by kernel_rfl) (by kernel_rfl)) ?_
  intro W base args ds gs before hval0 hW hcnd _
  have hval : ∀ (j : Nat) t v, Tryz.f3.params[j]? = some t → args[j]? = some v → Value.okWide Tryz.prog W .any base t v := hval0
  have hW' := hW
  obtain ⟨p, q, hA0, hV, rfl, hfz, hnd⟩ := hW
  have hA : DataW.TrodAll enc Tryz.prog W 0 (fun _ => true) true Tryz.f3.params.toList args.toList ds p := hA0
  rw [Tryz.params3] at hA hval
  obtain ⟨v0, vs0, d0, ds0, p0, q0, hargs, rfl, rfl, h0, r0⟩ := trodAll_cons hA
  obtain ⟨v1, vs1, d1, ds1, p1, q1, rfl, rfl, rfl, h1, r1⟩ := trodAll_cons r0
  obtain ⟨rfl, rfl, rfl⟩ := trodAll_nil r1
  obtain rfl : args = #[v0, v1] := by apply Array.toList_inj.1; simpa using hargs
  obtain ⟨x, hx⟩ := vr_int Tryz.underlying3 (hval 0 3 v0 rfl rfl)
  obtain ⟨y, hy⟩ := vr_slice Tryz.underlying22 (hval 1 22 v1 rfl rfl)
  refine (calls_true mixed Tryz.func3 body (.cons hx (.cons hy .nil)) (run x y)).mono fun e W' ⟨he, hb⟩ => ?_
  refine ⟨_, he, post_true laid (tb := 4) (fun t ht => ?_) rfl (by kernel_rfl) Tryz.underlying4 (fun ds hds => ?_) hW' hb⟩
  · have := List.all_eq_true.1 pars t ht
    simpa using this
  · match ds, hds with
    | [d1, d2], _ => rfl

theorem proved : Rows.VerifyNoneSaid :=
  OpenClaim.holds_of_wide (p := Tryz.pinned) (s := Rows.verifyNoneSpec) (c := Rows.verifyNoneRow) 3 Tryz.f3 rfl rfl rfl rfl rfl rfl rfl ⟨rfl, rfl, rfl, rfl, rfl⟩ rfl rfl rfl rfl rfl (by kernel_rfl) Tryz.func3 (by kernel_rfl)
    (of_decide_eq_true (by kernel_rfl)) (by unfold Func.isWrapper; first | (rw [if_pos (by decide +kernel)]; kernel_rfl) | (rw [if_neg (by decide +kernel)]; exact ⟨rfl, rfl⟩))
    (fun os started H enc _ => lifted os started H enc)
#print axioms proved
end Go.Proofs.YtgaleekleapipaaGreat.verifyNone
