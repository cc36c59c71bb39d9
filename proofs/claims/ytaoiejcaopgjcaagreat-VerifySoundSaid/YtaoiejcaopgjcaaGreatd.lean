/- VerifySound walked in D, function by function, and its plain law (Fa). -/
import Derived.Test.YtaoiejcaopgjcaaGreatRows
import Derived.WalkKit
import Derived.ProofKit
set_option linter.unusedVariables false
set_option linter.unusedSimpArgs false
namespace Go.Proofs.YtaoiejcaopgjcaaGreat.verifySound
open Go.ChangeShapes Go.WideShapes Go.ChangeAt Go.RowKit
noncomputable abbrev P:Program:=Tryz.prog
noncomputable abbrev c:OpenClaim:=Rows.verifySoundRow
noncomputable abbrev s:ChangeSpec:=Rows.verifySoundSpec
noncomputable abbrev fn:Func:=Tryz.f3
abbrev f:FuncId:=3
theorem mG {a b:Bool} (ha:a=true) (hb:b=true):(a&&b)=true:=by rw[ha,hb];rfl
theorem j1:(c.wf (OpenSpec.ofChange s))=true:=by kernel_rfl
theorem j2:(laidOutB P)=true:=by kernel_rfl
theorem j3:(mapsRowed P)=true:=by kernel_rfl
theorem j4:(fn.params.all (P.readableRec ·))=true:=by kernel_rfl
theorem j5:(namedTie P c.named s.vars)=true:=by kernel_rfl
theorem j6:((c.stops==[]))=true:=by kernel_rfl
theorem j7:((P.stops==[]))=true:=by kernel_rfl
theorem j8:((c.knobs==[]))=true:=by kernel_rfl
theorem j9:((P.stopKnobs==[]))=true:=by kernel_rfl
theorem j10:((c.inPlace==P.inPlace f))=true:=by kernel_rfl
theorem j11:((c.unfollowed==P.unfollowed f))=true:=by kernel_rfl
theorem j12:((c.recurses==P.recurses f))=true:=by kernel_rfl
theorem j13:((c.named==P.varsNamed f))=true:=by kernel_rfl
theorem j14:((c.maps==(fn.params.toList++s.plain.varTypes P).any (P.mapsRec ·)))=true:=by kernel_rfl
theorem j15:((c.ifaces==(fn.params.toList++s.plain.varTypes P).any (P.ifacesRec ·)))=true:=by kernel_rfl
theorem j16:((c.mapsOut==P.mapsAmong fn.resultTypes.toList))=true:=by kernel_rfl
theorem j17:((c.loops==(fn.params.toList++s.plain.varTypes P).any (P.loopsFrom ·)))=true:=by kernel_rfl
theorem j18:((c.wideKeys==(fn.params.toList++s.plain.varTypes P++fn.resultTypes.toList).any (P.wideKeysFrom ·)))=true:=by kernel_rfl
theorem j19:(s.vars.all (P.varReadable ·))=true:=by kernel_rfl
theorem j20:(fn.resultTypes.all (fun t=>P.readableRec t&&decide (t<P.types.size)))=true:=by kernel_rfl
theorem j21:((c.ifacesOut==fn.resultTypes.toList.any (P.ifacesRec ·)))=true:=by kernel_rfl
theorem j22:((c.loopsOut==fn.resultTypes.toList.any (P.loopsFrom ·)))=true:=by kernel_rfl
theorem j23:((c.plainKeys==P.plainKeys))=true:=by kernel_rfl
theorem j24:(c.shortTexts.isNone)=true:=by kernel_rfl
theorem j25:(P.stopsHeard)=true:=by kernel_rfl
theorem j26:(P.mayEnter)=true:=by kernel_rfl
theorem j27:((c.lifted==P.liftsFinal))=true:=by kernel_rfl
theorem j28:((P.make==some c.make))=true:=by kernel_rfl
theorem j29:((c.kinds==(if c.domain.isEmpty then [] else fn.params.toList.map fun t=>match P.underlying t with | some (.int k)=>some k | _=>none)))=true:=by kernel_rfl
theorem j30:((c.pinned==c.pinnedBy))=true:=by kernel_rfl
theorem j31:((c.veiled==(fn.params.toList++s.plain.varTypes P++fn.resultTypes.toList).any (P.veiledRec ·)))=true:=by kernel_rfl
theorem j32:(c.veiledFits P fn.params.toList (fn.params.toList++s.plain.varTypes P++fn.resultTypes.toList))=true:=by kernel_rfl
set_option maxRecDepth 100000 in
theorem closed:joinedFacts Tryz.prog 3 Tryz.f3 Rows.verifySoundSpec Rows.verifySoundRow=true:=mG (mG (mG (mG (mG (mG (mG (mG (mG (mG (mG (mG (mG (mG (mG (mG (mG (mG (mG (mG (mG (mG (mG (mG (mG (mG (mG (mG (mG (mG (mG j1 j2) j3) j4) j5) j6) j7) j8) j9) j10) j11) j12) j13) j14) j15) j16) j17) j18) j19) j20) j21) j22) j23) j24) j25) j26) j27) j28) j29) j30) j31) j32
theorem named:Tryz.prog.funcNamed Rows.verifySoundRow.func=some 3:=by kernel_rfl
end Go.Proofs.YtaoiejcaopgjcaaGreat.verifySound
