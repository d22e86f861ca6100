/-
  DERIVED. GIVEN WITH THE SEED: THE CARDS: each row of YtcfnndmehnppnaaGreatDoorRows.lean that lists a variable, with what it lists TIED to the program's text (the seventh form; the later family's looks); each row that meets fmt, with fmt's text TOLD by the authors' own Lean function (tested against real Go, not proved from fmt's source: count such statements apart). THE CARD IS WHAT COUNTS. Prove the row's statement (the work); the ties are given (YtcfnndmehnppnaaGreatDoorTie.lean); close each card by the builder's one call (the guide's Derived/Test/ToyasCard.lean, 'card_holds'). Laid BY PROGRAM, IN A SANDBOX (cutbox-door.mjs). By AI agents, Wed Nov 11 2026. No macro, syntax, notation, axiom, sorry.
-/
import Derived.Test.YtcfnndmehnppnaaGreatDoorRows
import GoSem.ClaimSeven
namespace Go.Proofs.YtcfnndmehnppnaaGreatDoor
namespace Rows

/-- THE TIED CARD OF 'hayricklaw29.JudgeKnown'. -/
def judgeKnownCard : Claim7 := { stood := { row := judgeKnownRow, standIns := [], harness := (true, "8e239e2260ca0915afe6e38ae86e2c4485f67799fce94c52b9e3bea85a3a8a11"), looks := true }, kinds := [], alts := [], laidByText := true, laidKinds := [.data, .data, .pinned], laidTests := true, laidLooks := .later }
def JudgeKnownCardSaid : Prop := Claim7.holds Tryz.pinned (.plain (OpenSpec.ofChange judgeKnownSpec)) judgeKnownCard

/-- THE TIED CARD OF 'hayricklaw22.PathKnown'. -/
def pathKnownCard : Claim7 := { stood := { row := pathKnownRow, standIns := [], harness := (true, "8e239e2260ca0915afe6e38ae86e2c4485f67799fce94c52b9e3bea85a3a8a11"), looks := true }, kinds := [], alts := [], laidByText := true, laidKinds := [.data, .pinned], laidTests := true, laidLooks := .later }
def PathKnownCardSaid : Prop := Claim7.holds Tryz.pinned (.plain (OpenSpec.ofChange pathKnownSpec)) pathKnownCard

/-- THE TIED CARD OF 'hayricklaw20.DirsKnown'. -/
def dirsKnownCard : Claim7 := { stood := { row := dirsKnownRow, standIns := [], harness := (true, "8e239e2260ca0915afe6e38ae86e2c4485f67799fce94c52b9e3bea85a3a8a11"), looks := true }, kinds := [], alts := [], laidByText := true, laidKinds := [.data, .pinned], laidTests := true, laidLooks := .later }
def DirsKnownCardSaid : Prop := Claim7.holds Tryz.pinned (.plain (OpenSpec.ofChange dirsKnownSpec)) dirsKnownCard

/-- THE SECOND FORM's CARD OF 'hayricklaw29.JudgeKnown'. -/
def judgeKnownUptoCard : Claim7 := { stood := { row := judgeKnownUptoRow, standIns := [], harness := (true, "8e239e2260ca0915afe6e38ae86e2c4485f67799fce94c52b9e3bea85a3a8a11"), looks := true }, kinds := [], alts := [], laidByText := true, laidKinds := [.data, .data, .pinned], laidTests := true, laidLooks := .later }
def JudgeKnownUptoCardSaid : Prop := Claim7.holds Tryz.pinned (.plain (OpenSpec.upto judgeKnownSpec)) judgeKnownUptoCard

/-- THE SECOND FORM's CARD OF 'hayricklaw22.PathKnown'. -/
def pathKnownUptoCard : Claim7 := { stood := { row := pathKnownUptoRow, standIns := [], harness := (true, "8e239e2260ca0915afe6e38ae86e2c4485f67799fce94c52b9e3bea85a3a8a11"), looks := true }, kinds := [], alts := [], laidByText := true, laidKinds := [.data, .pinned], laidTests := true, laidLooks := .later }
def PathKnownUptoCardSaid : Prop := Claim7.holds Tryz.pinned (.plain (OpenSpec.upto pathKnownSpec)) pathKnownUptoCard

/-- THE SECOND FORM's CARD OF 'hayricklaw20.DirsKnown'. -/
def dirsKnownUptoCard : Claim7 := { stood := { row := dirsKnownUptoRow, standIns := [], harness := (true, "8e239e2260ca0915afe6e38ae86e2c4485f67799fce94c52b9e3bea85a3a8a11"), looks := true }, kinds := [], alts := [], laidByText := true, laidKinds := [.data, .pinned], laidTests := true, laidLooks := .later }
def DirsKnownUptoCardSaid : Prop := Claim7.holds Tryz.pinned (.plain (OpenSpec.upto dirsKnownSpec)) dirsKnownUptoCard
end Rows
end Go.Proofs.YtcfnndmehnppnaaGreatDoor
