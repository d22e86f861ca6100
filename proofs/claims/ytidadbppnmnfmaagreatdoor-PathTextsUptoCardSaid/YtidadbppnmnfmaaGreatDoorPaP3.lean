/-
  Walks: the awake test, known.
-/
import Derived.Test.YtidadbppnmnfmaaGreatDoorPaP2
namespace Go.Proofs.YtidadbppnmnfmaaGreatDoor.pa
open Go Go.Eng Go.Sh
section
variable {os : List (Nat × AObj)} {A : AW} {Q : Value → AW → Prop} {l : List Thing}
theorem wakesG (hp : Hp (tabsOf os) A l) (H : Q (.bool true) A) : Goes (XX os) 1 13 [] A Q := by
  intro n hn
  cases n with
  | zero => omega
  | succ n =>
    refine ⟨.bool true, A, ?_, H⟩
    show iterU _ _ _ _ (n + 1) (.call _ _) A = _
    simp only [iterU]
    rw [sumTabs_at fun h r p e => (hp.tab h r p (tabs_low e)).1]
end
end Go.Proofs.YtidadbppnmnfmaaGreatDoor.pa
