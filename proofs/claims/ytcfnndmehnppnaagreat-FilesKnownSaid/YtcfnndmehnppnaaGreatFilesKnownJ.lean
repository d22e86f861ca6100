/-
  What the row says of the program, looked up in it.
-/
import Derived.Test.YtcfnndmehnppnaaGreatRows
import Derived.Test.YtcfnndmehnppnaaGreatProg
import Derived.JoinedOf
import Derived.SevenTiedAt
import Derived.KernelRfl
set_option linter.unusedVariables false
namespace Go.Proofs.YtcfnndmehnppnaaGreat.filesKnown
open Go
noncomputable section
theorem j1 : (Rows.filesKnownRow.inPlace == Tryz.pinned.checked.prog.inPlace 5) = true := by kernel_rfl
theorem j2 : (Rows.filesKnownRow.unfollowed == Tryz.pinned.checked.prog.unfollowed 5) = true := by kernel_rfl
theorem j3 : (Rows.filesKnownRow.recurses == Tryz.pinned.checked.prog.recurses 5) = true := by kernel_rfl
theorem j4 : (Rows.filesKnownRow.named == Tryz.pinned.checked.prog.varsNamed 5) = true := by kernel_rfl
theorem jj : joinedFacts Tryz.pinned.checked.prog 5 Tryz.f5 Rows.filesKnownSpec Rows.filesKnownRow = true := by
  unfold joinedFacts
  rw [j1, j2, j3, j4]
  kernel_rfl
end
end Go.Proofs.YtcfnndmehnppnaaGreat.filesKnown
