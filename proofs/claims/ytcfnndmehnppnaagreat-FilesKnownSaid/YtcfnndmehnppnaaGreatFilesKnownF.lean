/-
  Sums for the field: its tables are run once; products and inverses, whatever the world.
-/
import Derived.Test.YtcfnndmehnppnaaGreatFilesKnownT
import Derived.Test.YtcfnndmehnppnaaGreatEngZ
import Derived.KernelRfl
set_option linter.unusedVariables false
namespace Go.Proofs.YtcfnndmehnppnaaGreat.filesKnown
open Go Go.Eng
noncomputable section
theorem tabRun : resIsV tabV (iterX CC tr0 LL noSums 100 (.call 180 []) (start0 PP)) = true := by kernel_rfl
theorem tabSolid : solid tabV = true := by kernel_rfl
def fieldAt : FieldAt CC where
  inv := 159
  lg := 175
  ex := 176
  ar := 181
  tb := 180
  t1 := 281
  t2 := 282
  z1 := zc 281
  z2 := zc 282
  hz1 := by kernel_rfl
  hz2 := by kernel_rfl
  hinv := fun X L x => (e159 X L x).trans (by kernel_rfl)
  hlg := fun X L x => (e175 X L x).trans (by kernel_rfl)
  hex := fun X L x => (e176 X L x).trans (by kernel_rfl)
  har := fun X L x => (e181 X L x).trans (by kernel_rfl)
abbrev S0 : Sums := sumInv 159 (sumMul 158 noSums)
theorem ok0 : SumsOk PP S0 := sumInv_ok cok (sumMul_ok (ft := 174) cok (noSums_ok PP) (fun X L x => (e158 X L x).trans (by kernel_rfl)) (fun X L x => (e174 X L x).trans (by kernel_rfl))) fieldAt
  (fun w => closedX cok tk0 (noSums_ok PP) rfl tabSolid tabRun w) (by kernel_rfl)
end
end Go.Proofs.YtcfnndmehnppnaaGreat.filesKnown
