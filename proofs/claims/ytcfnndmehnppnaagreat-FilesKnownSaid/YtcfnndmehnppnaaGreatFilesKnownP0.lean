/-
  The run, part 0.
-/
import Derived.Test.YtcfnndmehnppnaaGreatFilesKnownK
import Derived.KernelRfl
set_option linter.unusedVariables false
namespace Go.Proofs.YtcfnndmehnppnaaGreat.filesKnown
open Go Go.Eng
noncomputable section
theorem prun0 : partOk lt1 os1 nx1 (evPre CC II fn.ntmps (takeP ts1) (takeSeq 3 cd0 ad0) ⟨[]⟩ (start0 PP)) = true := by kernel_rfl
end
end Go.Proofs.YtcfnndmehnppnaaGreat.filesKnown
