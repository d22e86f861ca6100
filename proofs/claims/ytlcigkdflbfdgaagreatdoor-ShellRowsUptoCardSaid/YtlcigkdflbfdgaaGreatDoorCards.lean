/-
  DERIVED. GIVEN WITH THE SEED: THE CARDS: each row of YtlcigkdflbfdgaaGreatDoorRows.lean that lists a variable, with what it lists TIED to the program's text (the seventh form; the later family's looks); each row that meets fmt, with fmt's text TOLD by the authors' own Lean function (tested against real Go, not proved from fmt's source: count such statements apart). THE CARD IS WHAT COUNTS. Prove the row's statement (the work); the ties are given (YtlcigkdflbfdgaaGreatDoorTie.lean); close each card by the builder's one call (the guide's Derived/Test/ToyasCard.lean, 'card_holds'). Laid BY PROGRAM, IN A SANDBOX (cutbox-door.mjs). By AI agents, Wed Nov 11 2026. No macro, syntax, notation, axiom, sorry.
-/
import Derived.Test.YtlcigkdflbfdgaaGreatDoorRows
import GoSem.ClaimSeven
namespace Go.Proofs.YtlcigkdflbfdgaaGreatDoor
namespace Rows

/-- THE TIED CARD OF 'hayricklaw30.ShellEvents'. -/
def shellEventsCard : Claim7 := { stood := { row := shellEventsRow, standIns := [], harness := (true, "b313873e3f17dcad868f7b437c2440d27033e8c65ef02a3fb940c0481fa4cbfe"), looks := true }, kinds := [], alts := [], laidByText := true, laidKinds := [.data, .data, .data, .data, .sentinel, .sentinel, .pinned], laidTests := true, laidLooks := .later }
def ShellEventsCardSaid : Prop := Claim7.holds Tryz.pinned (.plain (OpenSpec.ofChange shellEventsSpec)) shellEventsCard

/-- THE TIED CARD OF 'hayricklaw30.ShellRows'. -/
def shellRowsCard : Claim7 := { stood := { row := shellRowsRow, standIns := [], harness := (true, "b313873e3f17dcad868f7b437c2440d27033e8c65ef02a3fb940c0481fa4cbfe"), looks := true }, kinds := [], alts := [], laidByText := true, laidKinds := [.data, .data, .data, .data, .sentinel, .sentinel, .pinned], laidTests := true, laidLooks := .later }
def ShellRowsCardSaid : Prop := Claim7.holds Tryz.pinned (.plain (OpenSpec.ofChange shellRowsSpec)) shellRowsCard

/-- THE SECOND FORM's CARD OF 'hayricklaw30.ShellEvents'. -/
def shellEventsUptoCard : Claim7 := { stood := { row := shellEventsUptoRow, standIns := [], harness := (true, "b313873e3f17dcad868f7b437c2440d27033e8c65ef02a3fb940c0481fa4cbfe"), looks := true }, kinds := [], alts := [], laidByText := true, laidKinds := [.data, .data, .data, .data, .sentinel, .sentinel, .pinned], laidTests := true, laidLooks := .later }
def ShellEventsUptoCardSaid : Prop := Claim7.holds Tryz.pinned (.plain (OpenSpec.upto shellEventsSpec)) shellEventsUptoCard

/-- THE SECOND FORM's CARD OF 'hayricklaw30.ShellRows'. -/
def shellRowsUptoCard : Claim7 := { stood := { row := shellRowsUptoRow, standIns := [], harness := (true, "b313873e3f17dcad868f7b437c2440d27033e8c65ef02a3fb940c0481fa4cbfe"), looks := true }, kinds := [], alts := [], laidByText := true, laidKinds := [.data, .data, .data, .data, .sentinel, .sentinel, .pinned], laidTests := true, laidLooks := .later }
def ShellRowsUptoCardSaid : Prop := Claim7.holds Tryz.pinned (.plain (OpenSpec.upto shellRowsSpec)) shellRowsUptoCard
end Rows
end Go.Proofs.YtlcigkdflbfdgaaGreatDoor
