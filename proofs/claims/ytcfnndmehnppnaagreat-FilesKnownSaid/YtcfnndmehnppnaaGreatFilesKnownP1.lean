/-
  The run, part 1.
-/
import Derived.Test.YtcfnndmehnppnaaGreatFilesKnownK
import Derived.KernelRfl
set_option linter.unusedVariables false
namespace Go.Proofs.YtcfnndmehnppnaaGreat.filesKnown
open Go Go.Eng
noncomputable section
theorem run1 : partOk lt2 os2 nx2 (evPre CC II fn.ntmps (takeP ts2) (takeSeq 5 cd1 ad1) ⟨lt1⟩ (layW os1 nx1)) = true := by kernel_rfl
end
end Go.Proofs.YtcfnndmehnppnaaGreat.filesKnown
