/-
  DERIVED. GIVEN WITH THE SEED: THE CARDS: each row of YtelmjodchophjaaGreatDoorRows.lean that lists a variable, with what it lists TIED to the program's text (the seventh form; the later family's looks); each row that meets fmt, with fmt's text TOLD by the authors' own Lean function (tested against real Go, not proved from fmt's source: count such statements apart). THE CARD IS WHAT COUNTS. Prove the row's statement (the work); the ties are given (YtelmjodchophjaaGreatDoorTie.lean); close each card by the builder's one call (the guide's Derived/Test/ToyasCard.lean, 'card_holds'). Laid BY PROGRAM, IN A SANDBOX (cutbox-door.mjs). By AI agents, Wed Nov 11 2026. No macro, syntax, notation, axiom, sorry.
-/
import Derived.Test.YtelmjodchophjaaGreatDoorRows
import GoSem.ClaimSeven
namespace Go.Proofs.YtelmjodchophjaaGreatDoor
namespace Rows

/-- THE TIED CARD OF 'dustcartlaw21.VerifyTexts'. -/
def verifyTextsCard : Claim7 := { stood := { row := verifyTextsRow, standIns := [], harness := (true, "6e54654e10e94d41a04bcdb5cda0b33c5ebc55752acce4d77b4b5e4003452584"), looks := true }, kinds := [], alts := [], laidByText := true, laidKinds := [.data, .data, .data, .data, .sentinel, .sentinel, .widerDeep, .pinned], laidTests := true, laidLooks := .later }
def VerifyTextsCardSaid : Prop := Claim7.holds Tryz.pinned (.plain (OpenSpec.ofChange verifyTextsSpec)) verifyTextsCard

/-- THE TIED CARD OF 'dustcartlaw21.VerifyReads'. -/
def verifyReadsCard : Claim7 := { stood := { row := verifyReadsRow, standIns := [], harness := (true, "6e54654e10e94d41a04bcdb5cda0b33c5ebc55752acce4d77b4b5e4003452584"), looks := true }, kinds := [], alts := [], laidByText := true, laidKinds := [.data, .data, .data, .data, .sentinel, .sentinel, .widerDeep, .pinned], laidTests := true, laidLooks := .later }
def VerifyReadsCardSaid : Prop := Claim7.holds Tryz.pinned (.plain (OpenSpec.ofChange verifyReadsSpec)) verifyReadsCard

/-- THE SECOND FORM's CARD OF 'dustcartlaw21.VerifyTexts'. -/
def verifyTextsUptoCard : Claim7 := { stood := { row := verifyTextsUptoRow, standIns := [], harness := (true, "6e54654e10e94d41a04bcdb5cda0b33c5ebc55752acce4d77b4b5e4003452584"), looks := true }, kinds := [], alts := [], laidByText := true, laidKinds := [.data, .data, .data, .data, .sentinel, .sentinel, .widerDeep, .pinned], laidTests := true, laidLooks := .later }
def VerifyTextsUptoCardSaid : Prop := Claim7.holds Tryz.pinned (.plain (OpenSpec.upto verifyTextsSpec)) verifyTextsUptoCard

/-- THE SECOND FORM's CARD OF 'dustcartlaw21.VerifyReads'. -/
def verifyReadsUptoCard : Claim7 := { stood := { row := verifyReadsUptoRow, standIns := [], harness := (true, "6e54654e10e94d41a04bcdb5cda0b33c5ebc55752acce4d77b4b5e4003452584"), looks := true }, kinds := [], alts := [], laidByText := true, laidKinds := [.data, .data, .data, .data, .sentinel, .sentinel, .widerDeep, .pinned], laidTests := true, laidLooks := .later }
def VerifyReadsUptoCardSaid : Prop := Claim7.holds Tryz.pinned (.plain (OpenSpec.upto verifyReadsSpec)) verifyReadsUptoCard
end Rows
end Go.Proofs.YtelmjodchophjaaGreatDoor
