/-
  No cell of these rows narrows 'for every input' (looked for: loops, veiled, ifaces, maps, wideKeys, modest, calm, conditions, laid).
  DERIVED. THE GIVEN ROWS OF THIS SEAT. 5 by the template 'for every input the law returns true; each argument reads behind the call as it read before'; 0 by the template 'total and deterministic' (their statements: YtaoiejcaopgjcaaGreatTotals.lean).
  GIVEN WITH THE SEED: the statements are not yours to turn. If you find one false, say at which input.
  Laid BY PROGRAM, IN A SANDBOX (cutbox-rows.mjs): the forced cells as the released guide's own fill.sh prints them over the translation 896bf67d76547fa8… (all of the seat's roots in one cut). By AI agents, Wed Nov 11 2026. No macro, syntax, notation, axiom, sorry.
-/
import Derived.Test.YtaoiejcaopgjcaaGreatChecked
import GoSem.Claim
import GoSem.ClaimJoined
import GoSem.ClaimMapViews
import Derived.JoinedTies
import Derived.KernelRfl
namespace Go.Proofs.YtaoiejcaopgjcaaGreat
/- THE CELL 'sum', in the pinned program and in every row, IS THE sha256 OF THE DUMP (.gsa) THAT YtaoiejcaopgjcaaGreatProg.lean LOADS. Nothing in Lean hashes anything: it is a label: what it is worth is what the hold of that sum in a sandbox is worth. -/
noncomputable def Tryz.pinned : Pinned := { name := "ytaoiejcaopgjcaagreat", sum := "896bf67d76547fa8fa8556375a5a0cbd7a145b4e74b7c0912b69250e2a84a889", checked := Tryz.checked }
namespace Rows
def none {H : Type} : Left H := { results := [], args := [] }

/-- 'dustcartlaw21.VerifySound': WHATEVER THE INPUT: true; the input reads as it did. -/
def verifySoundSpec : ChangeSpec := { name := "verifySound", fn := fun _ => fun
  | [d1, d2, d3, d4] => { results := [.lit (.bool true)], args := [d1, d2, d3, d4] }
  | _ => none }
def verifySoundRow : OpenClaim := { program := "ytaoiejcaopgjcaagreat", sum := "896bf67d76547fa8fa8556375a5a0cbd7a145b4e74b7c0912b69250e2a84a889", func := "dustcart/dustcartlaw21.VerifySound", spec := "verifySound", unfollowed := true, recurses := true, apart := false }
def VerifySoundSaid : Prop := verifySoundRow.holds Tryz.pinned (OpenSpec.ofChange verifySoundSpec)

/-- ITS FALSE NEIGHBOUR: 'it returns false'. Refute it at one input. -/
def verifySoundWrong : ChangeSpec := { name := "verifySound", fn := fun _ => fun
  | [d1, d2, d3, d4] => { results := [.lit (.bool false)], args := [d1, d2, d3, d4] }
  | _ => none }
def VerifySoundWrongFalsely : Prop := verifySoundRow.holds Tryz.pinned (OpenSpec.ofChange verifySoundWrong)

/-- 'dustcartlaw21.VerifyFinds': WHATEVER THE INPUT: true; the input reads as it did. -/
def verifyFindsSpec : ChangeSpec := { name := "verifyFinds", fn := fun _ => fun
  | [d1, d2, d3, d4, d5] => { results := [.lit (.bool true)], args := [d1, d2, d3, d4, d5] }
  | _ => none }
def verifyFindsRow : OpenClaim := { program := "ytaoiejcaopgjcaagreat", sum := "896bf67d76547fa8fa8556375a5a0cbd7a145b4e74b7c0912b69250e2a84a889", func := "dustcart/dustcartlaw21.VerifyFinds", spec := "verifyFinds", unfollowed := true, recurses := true, apart := false }
def VerifyFindsSaid : Prop := verifyFindsRow.holds Tryz.pinned (OpenSpec.ofChange verifyFindsSpec)

/-- ITS FALSE NEIGHBOUR: 'it returns false'. Refute it at one input. -/
def verifyFindsWrong : ChangeSpec := { name := "verifyFinds", fn := fun _ => fun
  | [d1, d2, d3, d4, d5] => { results := [.lit (.bool false)], args := [d1, d2, d3, d4, d5] }
  | _ => none }
def VerifyFindsWrongFalsely : Prop := verifyFindsRow.holds Tryz.pinned (OpenSpec.ofChange verifyFindsWrong)

/-- 'dustcartlaw21.VerifyDamage': WHATEVER THE INPUT: true; the input reads as it did. -/
def verifyDamageSpec : ChangeSpec := { name := "verifyDamage", fn := fun _ => fun
  | [d1, d2, d3, d4] => { results := [.lit (.bool true)], args := [d1, d2, d3, d4] }
  | _ => none }
def verifyDamageRow : OpenClaim := { program := "ytaoiejcaopgjcaagreat", sum := "896bf67d76547fa8fa8556375a5a0cbd7a145b4e74b7c0912b69250e2a84a889", func := "dustcart/dustcartlaw21.VerifyDamage", spec := "verifyDamage", inPlace := ["maps.clone"], unfollowed := true, recurses := true, apart := false }
def VerifyDamageSaid : Prop := verifyDamageRow.holds Tryz.pinned (OpenSpec.ofChange verifyDamageSpec)

/-- ITS FALSE NEIGHBOUR: 'it returns false'. Refute it at one input. -/
def verifyDamageWrong : ChangeSpec := { name := "verifyDamage", fn := fun _ => fun
  | [d1, d2, d3, d4] => { results := [.lit (.bool false)], args := [d1, d2, d3, d4] }
  | _ => none }
def VerifyDamageWrongFalsely : Prop := verifyDamageRow.holds Tryz.pinned (OpenSpec.ofChange verifyDamageWrong)

/-- 'dustcartlaw21.VerifyCompares': WHATEVER THE INPUT: true; the input reads as it did. -/
def verifyComparesSpec : ChangeSpec := { name := "verifyCompares", fn := fun _ => fun
  | [d1, d2, d3, d4, d5] => { results := [.lit (.bool true)], args := [d1, d2, d3, d4, d5] }
  | _ => none }
def verifyComparesRow : OpenClaim := { program := "ytaoiejcaopgjcaagreat", sum := "896bf67d76547fa8fa8556375a5a0cbd7a145b4e74b7c0912b69250e2a84a889", func := "dustcart/dustcartlaw21.VerifyCompares", spec := "verifyCompares", inPlace := ["maps.clone"], unfollowed := true, recurses := true, apart := false }
def VerifyComparesSaid : Prop := verifyComparesRow.holds Tryz.pinned (OpenSpec.ofChange verifyComparesSpec)

/-- ITS FALSE NEIGHBOUR: 'it returns false'. Refute it at one input. -/
def verifyComparesWrong : ChangeSpec := { name := "verifyCompares", fn := fun _ => fun
  | [d1, d2, d3, d4, d5] => { results := [.lit (.bool false)], args := [d1, d2, d3, d4, d5] }
  | _ => none }
def VerifyComparesWrongFalsely : Prop := verifyComparesRow.holds Tryz.pinned (OpenSpec.ofChange verifyComparesWrong)

/-- 'dustcartlaw21.VerifyMarks': WHATEVER THE INPUT: true; the input reads as it did. -/
def verifyMarksSpec : ChangeSpec := { name := "verifyMarks", fn := fun _ => fun
  | [d1, d2] => { results := [.lit (.bool true)], args := [d1, d2] }
  | _ => none }
def verifyMarksRow : OpenClaim := { program := "ytaoiejcaopgjcaagreat", sum := "896bf67d76547fa8fa8556375a5a0cbd7a145b4e74b7c0912b69250e2a84a889", func := "dustcart/dustcartlaw21.VerifyMarks", spec := "verifyMarks", unfollowed := true, recurses := true, apart := false }
def VerifyMarksSaid : Prop := verifyMarksRow.holds Tryz.pinned (OpenSpec.ofChange verifyMarksSpec)

/-- ITS FALSE NEIGHBOUR: 'it returns false'. Refute it at one input. -/
def verifyMarksWrong : ChangeSpec := { name := "verifyMarks", fn := fun _ => fun
  | [d1, d2] => { results := [.lit (.bool false)], args := [d1, d2] }
  | _ => none }
def VerifyMarksWrongFalsely : Prop := verifyMarksRow.holds Tryz.pinned (OpenSpec.ofChange verifyMarksWrong)

/- THE SECOND FORM. 'bulk': how many values and letters a reading holds, each counted each time it is reached (what is shared counts as often as it is met; a slice's spare places count too). A statement '..UptoSaid' is the law's where the arguments, and the package variables that the reading takes, are together of bulk at most 1048576: NARROWER than '..Said'. Prove '..Said' where nothing that the law and all that it calls make is longer than what came in: it says more and counts as full. Else prove '..UptoSaid'. A law counts once. -/
mutual
def uptoBulk {H : Type} : DataW H → Nat
  | .lit (.string bytes) => bytes.length + 1
  | .lit _ => 1
  | .nil => 1
  | .ptr d => uptoBulk d + 1
  | .slice elems spare => uptoBulkAll elems + uptoBulkAll spare + 1
  | .agg parts => uptoBulkAll parts + 1
  | .iface _ d => uptoBulk d + 1
  | .map entries => uptoBulkEntries entries + 1
  | .held _ => 1
def uptoBulkAll {H : Type} : List (DataW H) → Nat
  | [] => 0
  | d :: r => uptoBulk d + uptoBulkAll r
def uptoBulkEntries {H : Type} : List (Lit × DataW H) → Nat
  | [] => 0
  | x :: r => uptoBulkEntry x + uptoBulkEntries r
def uptoBulkEntry {H : Type} : Lit × DataW H → Nat
  | (.string bytes, d) => bytes.length + uptoBulk d + 1
  | (_, d) => uptoBulk d + 1
 end
def uptoSmall : (H : Type) → List (DataW H) → Bool := fun _ ds => decide (uptoBulkAll ds ≤ 1048576)
def OpenSpec.upto (s : _root_.Go.ChangeSpec) : _root_.Go.OpenSpec := { _root_.Go.OpenSpec.ofChange s with cond := some uptoSmall }

/-- 'dustcartlaw21.VerifySound', WHERE WHAT IT READS IS OF BULK AT MOST 1048576: true; the input reads as it did. -/
def verifySoundUptoRow : OpenClaim := { program := "ytaoiejcaopgjcaagreat", sum := "896bf67d76547fa8fa8556375a5a0cbd7a145b4e74b7c0912b69250e2a84a889", func := "dustcart/dustcartlaw21.VerifySound", spec := "verifySound", unfollowed := true, recurses := true, apart := false, narrowed := true }
def VerifySoundUptoSaid : Prop := verifySoundUptoRow.holds Tryz.pinned (OpenSpec.upto verifySoundSpec)

/-- 'dustcartlaw21.VerifyFinds', WHERE WHAT IT READS IS OF BULK AT MOST 1048576: true; the input reads as it did. -/
def verifyFindsUptoRow : OpenClaim := { program := "ytaoiejcaopgjcaagreat", sum := "896bf67d76547fa8fa8556375a5a0cbd7a145b4e74b7c0912b69250e2a84a889", func := "dustcart/dustcartlaw21.VerifyFinds", spec := "verifyFinds", unfollowed := true, recurses := true, apart := false, narrowed := true }
def VerifyFindsUptoSaid : Prop := verifyFindsUptoRow.holds Tryz.pinned (OpenSpec.upto verifyFindsSpec)

/-- 'dustcartlaw21.VerifyDamage', WHERE WHAT IT READS IS OF BULK AT MOST 1048576: true; the input reads as it did. -/
def verifyDamageUptoRow : OpenClaim := { program := "ytaoiejcaopgjcaagreat", sum := "896bf67d76547fa8fa8556375a5a0cbd7a145b4e74b7c0912b69250e2a84a889", func := "dustcart/dustcartlaw21.VerifyDamage", spec := "verifyDamage", inPlace := ["maps.clone"], unfollowed := true, recurses := true, apart := false, narrowed := true }
def VerifyDamageUptoSaid : Prop := verifyDamageUptoRow.holds Tryz.pinned (OpenSpec.upto verifyDamageSpec)

/-- 'dustcartlaw21.VerifyCompares', WHERE WHAT IT READS IS OF BULK AT MOST 1048576: true; the input reads as it did. -/
def verifyComparesUptoRow : OpenClaim := { program := "ytaoiejcaopgjcaagreat", sum := "896bf67d76547fa8fa8556375a5a0cbd7a145b4e74b7c0912b69250e2a84a889", func := "dustcart/dustcartlaw21.VerifyCompares", spec := "verifyCompares", inPlace := ["maps.clone"], unfollowed := true, recurses := true, apart := false, narrowed := true }
def VerifyComparesUptoSaid : Prop := verifyComparesUptoRow.holds Tryz.pinned (OpenSpec.upto verifyComparesSpec)

/-- 'dustcartlaw21.VerifyMarks', WHERE WHAT IT READS IS OF BULK AT MOST 1048576: true; the input reads as it did. -/
def verifyMarksUptoRow : OpenClaim := { program := "ytaoiejcaopgjcaagreat", sum := "896bf67d76547fa8fa8556375a5a0cbd7a145b4e74b7c0912b69250e2a84a889", func := "dustcart/dustcartlaw21.VerifyMarks", spec := "verifyMarks", unfollowed := true, recurses := true, apart := false, narrowed := true }
def VerifyMarksUptoSaid : Prop := verifyMarksUptoRow.holds Tryz.pinned (OpenSpec.upto verifyMarksSpec)

end Rows
end Go.Proofs.YtaoiejcaopgjcaaGreat
