/-
  Sums for the field: its tables are run once; products and inverses, whatever the world.
-/
import Derived.Test.YtidadbppnmnfmaaGreatDoorPaT
import Derived.Test.YtidadbppnmnfmaaGreatDoorEng29
import Derived.KernelRfl
set_option linter.unusedVariables false
namespace Go.Proofs.YtidadbppnmnfmaaGreatDoor.pa
open Go Go.Eng
noncomputable section
theorem tabRun : resIsV tabV (iterX CC tr0 LL noSums 100 (.call 233 []) (start0 PP)) = true := by kernel_rfl
theorem tabSolid : solid tabV = true := by kernel_rfl
def fieldAt : FieldAt CC where
  inv := 218
  lg := 229
  ex := 230
  ar := 234
  tb := 233
  t1 := 344
  t2 := 345
  z1 := zc 344
  z2 := zc 345
  hz1 := by kernel_rfl
  hz2 := by kernel_rfl
  hinv := fun X L x => ((e218 X L x).trans (show _ = invTextF 229 230 X L x by kernel_rfl)).trans (invTextF_eq ..)
  hlg := fun X L x => ((e229 X L x).trans (show _ = logTextF 233 344 345 (zc 344) (zc 345) X L x by kernel_rfl)).trans (logTextF_eq ..)
  hex := fun X L x => ((e230 X L x).trans (show _ = expTextF 233 234 344 345 (zc 344) (zc 345) X L x by kernel_rfl)).trans (expTextF_eq ..)
  har := fun X L x => ((e234 X L x).trans (show _ = aroundTextF X L x by kernel_rfl)).trans (aroundTextF_eq ..)
abbrev S0 : Sums := sumInv 218 (sumMul 217 noSums)
theorem ok0 : SumsOk PP S0 := sumInv_ok cok (sumMul_ok (ft := 228) cok (noSums_ok PP) (fun X L x => ((e217 X L x).trans (show _ = mulTextF 228 X L x by kernel_rfl)).trans (mulTextF_eq ..)) (fun X L x => ((e228 X L x).trans (show _ = twiceTextF X L x by kernel_rfl)).trans (twiceTextF_eq ..))) fieldAt
  (fun w => closedX cok tk0 (noSums_ok PP) rfl tabSolid tabRun w) (by kernel_rfl)
end
end Go.Proofs.YtidadbppnmnfmaaGreatDoor.pa
