/-
  What the row says of the program, looked up in it.
-/
import Derived.Test.YtcfnndmehnppnaaGreatDoorRows
import Derived.Test.YtcfnndmehnppnaaGreatDoorProg
import Derived.JoinedOf
import Derived.SevenTiedAt
import Derived.KernelRfl
set_option linter.unusedVariables false
namespace Go.Proofs.YtcfnndmehnppnaaGreatDoor.pathKnown
open Go
noncomputable section
theorem j1 : (Rows.pathKnownRow.inPlace == Tryz.pinned.checked.prog.inPlace 4) = true := by kernel_rfl
theorem j2 : (Rows.pathKnownRow.unfollowed == Tryz.pinned.checked.prog.unfollowed 4) = true := by kernel_rfl
theorem j3 : (Rows.pathKnownRow.recurses == Tryz.pinned.checked.prog.recurses 4) = true := by kernel_rfl
theorem j4 : (Rows.pathKnownRow.named == Tryz.pinned.checked.prog.varsNamed 4) = true := by kernel_rfl
theorem jj : joinedFacts Tryz.pinned.checked.prog 4 Tryz.f4 Rows.pathKnownSpec Rows.pathKnownRow = true := by
  unfold joinedFacts
  rw [j1, j2, j3, j4]
  kernel_rfl
theorem kk1 : Rows.pathKnownRow.wfByText (OpenSpec.ofChange Rows.pathKnownSpec) = true := by kernel_rfl
theorem kk2 : Tryz.pinned.checked.prog.mainIs = some (true, "8e239e2260ca0915afe6e38ae86e2c4485f67799fce94c52b9e3bea85a3a8a11".toList) := by kernel_rfl
theorem kk3 : true = Tryz.pinned.checked.prog.looks [] := by kernel_rfl
theorem kk4 : false = Rows.pathKnownRow.goesBy Tryz.pinned.checked.prog := by kernel_rfl
theorem kk5 : Tryz.pinned.checked.prog.funcNamed "hayrick/hayricklaw22.PathKnown" = some 4 := by kernel_rfl
end
end Go.Proofs.YtcfnndmehnppnaaGreatDoor.pathKnown
