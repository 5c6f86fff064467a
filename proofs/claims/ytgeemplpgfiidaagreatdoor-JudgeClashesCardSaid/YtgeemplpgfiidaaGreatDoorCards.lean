/-
  DERIVED. GIVEN WITH THE SEED: THE CARDS: each row of YtgeemplpgfiidaaGreatDoorRows.lean that lists a variable, with what it lists TIED to the program's text (the seventh form; the later family's looks); each row that meets fmt, with fmt's text TOLD by the authors' own Lean function (tested against real Go, not proved from fmt's source: count such statements apart). THE CARD IS WHAT COUNTS. Prove the row's statement (the work); the ties are given (YtgeemplpgfiidaaGreatDoorTie.lean); close each card by the builder's one call (the guide's Derived/Test/ToyasCard.lean, 'card_holds'). Laid BY PROGRAM, IN A SANDBOX (cutbox-door.mjs). By AI agents, Wed Nov 11 2026. No macro, syntax, notation, axiom, sorry.
-/
import Derived.Test.YtgeemplpgfiidaaGreatDoorRows
import GoSem.ClaimSeven
namespace Go.Proofs.YtgeemplpgfiidaaGreatDoor
namespace Rows

/-- THE TIED CARD OF 'massiflaw18.JudgeClashes'. -/
def judgeClashesCard : Claim7 := { stood := { row := judgeClashesRow, standIns := [], harness := (true, "7e7a165f8813bb6c4341c5db730f772f6778757668117258147f54f2bb6195e5"), looks := false }, kinds := [], alts := [], laidByText := true, laidKinds := [.data, .data, .data], laidTests := true, laidLooks := .later }
def JudgeClashesCardSaid : Prop := Claim7.holds Tryz.pinned (.plain (OpenSpec.ofChange judgeClashesSpec)) judgeClashesCard

/-- THE TIED CARD OF 'massiflaw18.JudgeTree'. -/
def judgeTreeCard : Claim7 := { stood := { row := judgeTreeRow, standIns := [], harness := (true, "7e7a165f8813bb6c4341c5db730f772f6778757668117258147f54f2bb6195e5"), looks := false }, kinds := [], alts := [], laidByText := true, laidKinds := [.data, .data, .data], laidTests := true, laidLooks := .later }
def JudgeTreeCardSaid : Prop := Claim7.holds Tryz.pinned (.plain (OpenSpec.ofChange judgeTreeSpec)) judgeTreeCard

/-- THE TIED CARD OF 'massiflaw11.KeepAgain'. -/
def keepAgainCard : Claim7 := { stood := { row := keepAgainRow, standIns := [], harness := (true, "7e7a165f8813bb6c4341c5db730f772f6778757668117258147f54f2bb6195e5"), looks := false }, kinds := [], alts := [], laidByText := true, laidKinds := [.data, .data], laidTests := true, laidLooks := .later }
def KeepAgainCardSaid : Prop := Claim7.holds Tryz.pinned (.plain (OpenSpec.ofChange keepAgainSpec)) keepAgainCard

/-- THE SECOND FORM's CARD OF 'massiflaw18.JudgeClashes'. -/
def judgeClashesUptoCard : Claim7 := { stood := { row := judgeClashesUptoRow, standIns := [], harness := (true, "7e7a165f8813bb6c4341c5db730f772f6778757668117258147f54f2bb6195e5"), looks := false }, kinds := [], alts := [], laidByText := true, laidKinds := [.data, .data, .data], laidTests := true, laidLooks := .later }
def JudgeClashesUptoCardSaid : Prop := Claim7.holds Tryz.pinned (.plain (OpenSpec.upto judgeClashesSpec)) judgeClashesUptoCard

/-- THE SECOND FORM's CARD OF 'massiflaw18.JudgeTree'. -/
def judgeTreeUptoCard : Claim7 := { stood := { row := judgeTreeUptoRow, standIns := [], harness := (true, "7e7a165f8813bb6c4341c5db730f772f6778757668117258147f54f2bb6195e5"), looks := false }, kinds := [], alts := [], laidByText := true, laidKinds := [.data, .data, .data], laidTests := true, laidLooks := .later }
def JudgeTreeUptoCardSaid : Prop := Claim7.holds Tryz.pinned (.plain (OpenSpec.upto judgeTreeSpec)) judgeTreeUptoCard

/-- THE SECOND FORM's CARD OF 'massiflaw11.KeepAgain'. -/
def keepAgainUptoCard : Claim7 := { stood := { row := keepAgainUptoRow, standIns := [], harness := (true, "7e7a165f8813bb6c4341c5db730f772f6778757668117258147f54f2bb6195e5"), looks := false }, kinds := [], alts := [], laidByText := true, laidKinds := [.data, .data], laidTests := true, laidLooks := .later }
def KeepAgainUptoCardSaid : Prop := Claim7.holds Tryz.pinned (.plain (OpenSpec.upto keepAgainSpec)) keepAgainUptoCard
end Rows
end Go.Proofs.YtgeemplpgfiidaaGreatDoor
