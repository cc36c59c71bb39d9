/- VtFa VtLa -/
import Derived.Test.YtelmjodchophjaaGreatDoorRows
import Derived.WalkKit
import Derived.ProofKit
import Derived.Test.YtelmjodchophjaaGreatDoorCards
import Derived.Test.YtelmjodchophjaaGreatDoorTie
import Derived.Test.YtelmjodchophjaaGreatDoorO
import Derived.Lay
import Derived.SevenTiedAt
set_option linter.unusedVariables false
set_option linter.unusedSimpArgs false
section
/- The closed facts of the row of VerifyTexts, one by one. -/
namespace Go.Proofs.YtelmjodchophjaaGreatDoor.verifyTexts
open Go.ChangeShapes Go.WideShapes Go.ChangeAt Go.RowKit

noncomputable abbrev P : Program := Tryz.prog
noncomputable abbrev c : OpenClaim := Rows.verifyTextsRow
noncomputable abbrev s : ChangeSpec := Rows.verifyTextsSpec
noncomputable abbrev fn : Func := Tryz.f3
abbrev f : FuncId := 3
theorem and2 {a b : Bool} (ha : a = true) (hb : b = true) : (a && b) = true := by rw [ha, hb]; rfl
theorem j1 : (c.wf (OpenSpec.ofChange s)) = true := by kernel_rfl
theorem j2 : (laidOutB P) = true := by kernel_rfl
theorem j3 : (mapsRowed P) = true := by kernel_rfl
theorem j4 : (fn.params.all (P.readableRec ·)) = true := by kernel_rfl
theorem j5 : (namedTie P c.named s.vars) = true := by kernel_rfl
theorem j6 : ((c.stops == [])) = true := by kernel_rfl
theorem j7 : ((P.stops == [])) = true := by kernel_rfl
theorem j8 : ((c.knobs == [])) = true := by kernel_rfl
theorem j9 : ((P.stopKnobs == [])) = true := by kernel_rfl
theorem j10 : ((c.inPlace == P.inPlace f)) = true := by kernel_rfl
theorem j11 : ((c.unfollowed == P.unfollowed f)) = true := by kernel_rfl
theorem j12 : ((c.recurses == P.recurses f)) = true := by kernel_rfl
theorem j13 : ((c.named == P.varsNamed f)) = true := by kernel_rfl
theorem j14 : ((c.maps == (fn.params.toList ++ s.plain.varTypes P).any (P.mapsRec ·))) = true := by kernel_rfl
theorem j15 : ((c.ifaces == (fn.params.toList ++ s.plain.varTypes P).any (P.ifacesRec ·))) = true := by kernel_rfl
theorem j16 : ((c.mapsOut == P.mapsAmong fn.resultTypes.toList)) = true := by kernel_rfl
theorem j17 : ((c.loops == (fn.params.toList ++ s.plain.varTypes P).any (P.loopsFrom ·))) = true := by kernel_rfl
theorem j18 : ((c.wideKeys == (fn.params.toList ++ s.plain.varTypes P ++ fn.resultTypes.toList).any (P.wideKeysFrom ·))) = true := by kernel_rfl
theorem j19 : (s.vars.all (P.varReadable ·)) = true := by kernel_rfl
theorem j20 : (fn.resultTypes.all (fun t => P.readableRec t && decide (t < P.types.size))) = true := by kernel_rfl
theorem j21 : ((c.ifacesOut == fn.resultTypes.toList.any (P.ifacesRec ·))) = true := by kernel_rfl
theorem j22 : ((c.loopsOut == fn.resultTypes.toList.any (P.loopsFrom ·))) = true := by kernel_rfl
theorem j23 : ((c.plainKeys == P.plainKeys)) = true := by kernel_rfl
theorem j24 : (c.shortTexts.isNone) = true := by kernel_rfl
theorem j25 : (P.stopsHeard) = true := by kernel_rfl
theorem j26 : (P.mayEnter) = true := by kernel_rfl
theorem j27 : ((c.lifted == P.liftsFinal)) = true := by kernel_rfl
theorem j28 : ((P.make == some c.make)) = true := by kernel_rfl
theorem j29 : ((c.kinds == (if c.domain.isEmpty then [] else fn.params.toList.map fun t => match P.underlying t with | some (.int k) => some k | _ => none))) = true := by kernel_rfl
theorem j30 : ((c.pinned == c.pinnedBy)) = true := by kernel_rfl
theorem j31 : ((c.veiled == (fn.params.toList ++ s.plain.varTypes P ++ fn.resultTypes.toList).any (P.veiledRec ·))) = true := by kernel_rfl
theorem j32 : (c.veiledFits P fn.params.toList (fn.params.toList ++ s.plain.varTypes P ++ fn.resultTypes.toList)) = true := by kernel_rfl
set_option maxRecDepth 100000 in
theorem closed : joinedFacts Tryz.prog 3 Tryz.f3 Rows.verifyTextsSpec Rows.verifyTextsRow = true := and2 (and2 (and2 (and2 (and2 (and2 (and2 (and2 (and2 (and2 (and2 (and2 (and2 (and2 (and2 (and2 (and2 (and2 (and2 (and2 (and2 (and2 (and2 (and2 (and2 (and2 (and2 (and2 (and2 (and2 (and2 j1 j2) j3) j4) j5) j6) j7) j8) j9) j10) j11) j12) j13) j14) j15) j16) j17) j18) j19) j20) j21) j22) j23) j24) j25) j26) j27) j28) j29) j30) j31) j32
theorem named : Tryz.prog.funcNamed Rows.verifyTextsRow.func = some 3 := by kernel_rfl
end Go.Proofs.YtelmjodchophjaaGreatDoor.verifyTexts
end
section
/- For every input VerifyTexts returns true and leaves its arguments as0 they were. -/
namespace Go.Proofs.YtelmjodchophjaaGreatDoor.verifyTexts
open Go.ChangeShapes Go.WideShapes Go.ChangeAt Go.RowKit Go.Dust
set_option maxRecDepth 100000

theorem own : ownKnob Tryz.prog.godebug = none := by kernel_rfl
theorem laidOut : laidOutB Tryz.prog = true := by kernel_rfl
theorem pars : Tryz.f3.params.toList.all (fun t => Tryz.prog.readableRec t && decide (t < Tryz.prog.types.size)) = true := by kernel_rfl
abbrev laidL : List (String × DataW Unit) := Rows.verifyTextsRow.laid
set_option maxRecDepth 100000 in
theorem lifted (os : Os) (started : os.Started) (H : Type) (enc : TypeId × Value → H) :
    ReturnsInHanded {} Tryz.checked os 3 .any (fun w args => (Rows.verifyTextsSpec.pre enc Tryz.prog Tryz.f3 [] false w args ∧ laidMetH Tryz.prog laidL w) ∧ sizedMet enc Tryz.prog Tryz.f3 (OpenSpec.ofChange Rows.verifyTextsSpec) false w args)
      (Rows.verifyTextsSpec.post enc Tryz.prog Tryz.f3 false true false false) := by
  refine returnsInHanded_of_change_and (C := Tryz.checked) (X := fun w _ => laidMetH Tryz.prog laidL w) (fun _ _ _ hh h => h.of_heap hh) own started (by kernel_rfl) Tryz.func3
    (ChangeSpec.witness_shaped (enc := enc) (C := Tryz.checked) (os := os) (X := fun w _ => laidMetH Tryz.prog laidL w) false (World.laidAll Tryz.prog os laidL) #[.slice none 0 0] 8 (World.laidAll_os _ _ _)
      (World.shaped_of_ZipB (by kernel_rfl) (by kernel_rfl)) (by kernel_rfl) (by kernel_rfl) (by kernel_rfl)
      (by rw [MakeChecks.laidMetH_plain _ _ _ (by kernel_rfl)]; exact laidMet_laidAll _ (by kernel_rfl) (by kernel_rfl))) ?_
  intro W base args ds gs before hval0 hW hcnd _ hL _
  have hval : ∀ (j : Nat) t v, Tryz.f3.params[j]? = some t → args[j]? = some v → Value.okWide Tryz.prog W .any base t v := hval0
  have hW' := hW
  obtain ⟨p, q, hA0, hV, rfl, hfz, hnd⟩ := hW
  have hA : DataW.TrodAll enc Tryz.prog W 0 (fun _ => true) true Tryz.f3.params.toList args.toList ds p := hA0
  rw [Tryz.params3] at hA hval
  obtain ⟨t2, t3, a2, a3, G⟩ := of_laid hL
  obtain ⟨v0, d0, rfl, rfl, h0⟩ := trodAll_one hA
  obtain ⟨fuel, h0⟩ := h0
  have hw : Cell.okWide Tryz.prog W .any base 22 v0 := by have := hval 0 22 v0 rfl rfl; simpa only [Value.okWide, Tryz.underlying22] using this
  have hx : CameIn W v0 := by
    cases v0 with
    | slice a n c => exact fts_of h0 hw
    | _ => simp [Cell.okWide, Cell.ok, Tryz.underlying22] at hw
  refine (texts_calls G hx).mono fun e W' ⟨he, hb⟩ => ?_
  refine ⟨_, he, post_true laidOut (tb := 4) (fun t ht => ?_) rfl (by kernel_rfl) Tryz.underlying4 (fun ds hds => ?_) hW' hb⟩
  · have := List.all_eq_true.1 pars t ht
    simpa using this
  · match ds, hds with
    | [_], _ => rfl

theorem said : Rows.VerifyTextsSaid :=
  OpenClaim.holds_of_wide (p := Tryz.pinned) (s := Rows.verifyTextsSpec) (c := Rows.verifyTextsRow) 3 Tryz.f3 rfl rfl rfl rfl rfl rfl rfl ⟨rfl, rfl, rfl, rfl, rfl⟩ rfl rfl rfl rfl rfl named Tryz.func3 closed
    (of_decide_eq_true (by kernel_rfl)) (by unfold Func.isWrapper; first | (rw [if_pos (by decide +kernel)]; kernel_rfl) | (rw [if_neg (by decide +kernel)]; exact ⟨rfl, rfl⟩))
    (fun os started H enc _ => lifted os started H enc)
theorem plain (f : FuncId) (fn : Func) (hf : Tryz.pinned.checked.prog.funcNamed "dustcart/dustcartlaw21.VerifyTexts" = some f) (hfn : Tryz.pinned.checked.prog.funcs[f]? = some fn) :
    true = Tryz.pinned.checked.prog.looks [] ∧ ∀ (j : Nat) t, fn.params[j]? = some t → Tryz.pinned.checked.prog.wantsStandIn t = false := by
  obtain rfl : f = 3 := Option.some.inj ((show Tryz.prog.funcNamed "dustcart/dustcartlaw21.VerifyTexts" = some 3 by kernel_rfl).symm.trans hf) |>.symm
  obtain rfl : fn = Tryz.f3 := (Option.some.inj (Tryz.func3.symm.trans hfn)).symm
  refine ⟨by kernel_rfl, fun j t ht => ?_⟩
  rw [Tryz.params3] at ht
  have hm : t ∈ [22] := by simpa using Array.mem_of_getElem? ht
  have hall : ([22].all fun u => !Tryz.prog.wantsStandIn u) = true := by kernel_rfl
  exact (show Tryz.prog.wantsStandIn t = false by simpa using List.all_eq_true.1 hall t hm)
theorem proved : Rows.VerifyTextsCardSaid :=
  Claim7.holds_tied_plain_at .later [] _ _ _ _ said (fun _ h => by cases h) (by kernel_rfl) (fun _ h => by cases h) verifyTexts_row_tie rfl ⟨rfl, rfl⟩ (by kernel_rfl) rfl plain (by kernel_rfl)
#print axioms proved
end Go.Proofs.YtelmjodchophjaaGreatDoor.verifyTexts
end
