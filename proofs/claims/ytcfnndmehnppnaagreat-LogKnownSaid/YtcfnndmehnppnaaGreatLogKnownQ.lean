/-
  The run: the law comes to true.
-/
import Derived.Test.YtcfnndmehnppnaaGreatLogKnownR0
import Derived.KernelRfl
set_option linter.unusedVariables false
namespace Go.Proofs.YtcfnndmehnppnaaGreat.logKnown
open Go Go.Eng
noncomputable section
theorem run : resIsV (.bool true) (iterX CC tr0 LL S1 100 (.call 4 []) (start0 PP)) = true := by kernel_rfl
end
end Go.Proofs.YtcfnndmehnppnaaGreat.logKnown
