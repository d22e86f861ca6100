/-
  What the row says of the program, looked up in it.
-/
import Derived.Test.YtcfnndmehnppnaaGreatRows
import Derived.Test.YtcfnndmehnppnaaGreatProg
import Derived.JoinedOf
import Derived.SevenTiedAt
import Derived.KernelRfl
set_option linter.unusedVariables false
namespace Go.Proofs.YtcfnndmehnppnaaGreat.logKnown
open Go
noncomputable section
theorem j1 : (Rows.logKnownRow.inPlace == Tryz.pinned.checked.prog.inPlace 4) = true := by kernel_rfl
theorem j2 : (Rows.logKnownRow.unfollowed == Tryz.pinned.checked.prog.unfollowed 4) = true := by kernel_rfl
theorem j3 : (Rows.logKnownRow.recurses == Tryz.pinned.checked.prog.recurses 4) = true := by kernel_rfl
theorem j4 : (Rows.logKnownRow.named == Tryz.pinned.checked.prog.varsNamed 4) = true := by kernel_rfl
theorem jj : joinedFacts Tryz.pinned.checked.prog 4 Tryz.f4 Rows.logKnownSpec Rows.logKnownRow = true := by
  unfold joinedFacts
  rw [j1, j2, j3, j4]
  kernel_rfl
end
end Go.Proofs.YtcfnndmehnppnaaGreat.logKnown
