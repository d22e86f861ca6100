/-
  The run, the last part.
-/
import Derived.Test.YtcfnndmehnppnaaGreatFilesKnownK
import Derived.KernelRfl
set_option linter.unusedVariables false
namespace Go.Proofs.YtcfnndmehnppnaaGreat.filesKnown
open Go Go.Eng
noncomputable section
theorem run2 : resIsV (.bool true) (evCode CC II fn.ntmps false cd2 true ad2 Value ⟨lt2⟩ (bodyK CC fn) (layW os2 nx2)) = true := by kernel_rfl
end
end Go.Proofs.YtcfnndmehnppnaaGreat.filesKnown
