/-
  The awake test, run once, with the tables that it reads.
-/
import Derived.Test.YtlcigkdflbfdgaaDoorShW1
import Derived.KernelRfl
namespace Go.Proofs.YtlcigkdflbfdgaaDoor.sh
open Go Go.Eng Go.Sh
noncomputable section
def powL : List Value := (List.range 20).map fun c => .int .u64 ((10 ^ c : Nat) : Int)
def powRow : Row := Row.ofList powL
/-- The laid tables; p, q, r: the world's objects that hold them. -/
def tabOs (p q r : Obj) : List (Nat × AObj) := [(0, .pin firstRow p), (1, .pin accRow q), (3, .pin powRow r)]
theorem runes (p q r : Obj) : Runes (tabOs p q r) := ⟨⟨p, rfl⟩, ⟨q, rfl⟩⟩
theorem wakesRun (p q r : Obj) : endsP (.bool true) [0, 1, 3] (iterJ CC tr0 LL noSums [] 100 (.call 11 []) (layW (tabOs p q r) PP.globals.size)) = some [some p, some q, some r] := by kernel_rfl
end
end Go.Proofs.YtlcigkdflbfdgaaDoor.sh
