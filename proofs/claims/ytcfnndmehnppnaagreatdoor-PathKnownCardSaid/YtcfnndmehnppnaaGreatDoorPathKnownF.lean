/-
  Sums for the field: its tables are run once; products and inverses, whatever the world.
-/
import Derived.Test.YtcfnndmehnppnaaGreatDoorPathKnownT
import Derived.Test.YtcfnndmehnppnaaGreatDoorEngZ
import Derived.KernelRfl
set_option linter.unusedVariables false
namespace Go.Proofs.YtcfnndmehnppnaaGreatDoor.pathKnown
open Go Go.Eng
noncomputable section
theorem tabRun : resIsV tabV (iterX CC tr0 LL noSums 100 (.call 384 []) (start0 PP)) = true := by kernel_rfl
theorem tabSolid : solid tabV = true := by kernel_rfl
def fieldAt : FieldAt CC where
  inv := 350
  lg := 375
  ex := 376
  ar := 385
  tb := 384
  t1 := 495
  t2 := 496
  z1 := zc 495
  z2 := zc 496
  hz1 := by kernel_rfl
  hz2 := by kernel_rfl
  hinv := fun X L x => (e350 X L x).trans (by kernel_rfl)
  hlg := fun X L x => (e375 X L x).trans (by kernel_rfl)
  hex := fun X L x => (e376 X L x).trans (by kernel_rfl)
  har := fun X L x => (e385 X L x).trans (by kernel_rfl)
abbrev S0 : Sums := sumInv 350 (sumMul 349 noSums)
theorem ok0 : SumsOk PP S0 := sumInv_ok cok (sumMul_ok (ft := 374) cok (noSums_ok PP) (fun X L x => (e349 X L x).trans (by kernel_rfl)) (fun X L x => (e374 X L x).trans (by kernel_rfl))) fieldAt
  (fun w => closedX cok tk0 (noSums_ok PP) rfl tabSolid tabRun w) (by kernel_rfl)
end
end Go.Proofs.YtcfnndmehnppnaaGreatDoor.pathKnown
