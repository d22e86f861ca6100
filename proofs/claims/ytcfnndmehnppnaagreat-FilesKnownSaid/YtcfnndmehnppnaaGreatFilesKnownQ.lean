/-
  The run: the law comes to true.
-/
import Derived.Test.YtcfnndmehnppnaaGreatFilesKnownP0
import Derived.Test.YtcfnndmehnppnaaGreatFilesKnownP1
import Derived.Test.YtcfnndmehnppnaaGreatFilesKnownP2
import Derived.KernelRfl
set_option linter.unusedVariables false
namespace Go.Proofs.YtcfnndmehnppnaaGreat.filesKnown
open Go Go.Eng Go.RowKit
noncomputable section
theorem g2 : Good CC fn (.bool true) cd2 ⟨lt2⟩ (layW os2 nx2) := good_end cok iok (by kernel_rfl) rfl run2
theorem g1 : Good CC fn (.bool true) cd1 ⟨lt1⟩ (layW os1 nx1) := good_cut cok iok 5 (by kernel_rfl) run1 g2
theorem g0 : Good CC fn (.bool true) cd0 ⟨[]⟩ (start0 PP) := good_cut cok iok 3 (by kernel_rfl) prun0 g1
theorem calls (w : World) : CallsIn Fence.wide 0 CC.P 5 #[] w fun e w' => e = .returned (.bool true) ∧ Below w.heap.size w w' := good_calls (fn := fn) (c := cd0) (by kernel_rfl) (by kernel_rfl) g0 w
end
end Go.Proofs.YtcfnndmehnppnaaGreat.filesKnown
