/-
  Walks: ShellWords, ShellParts.
-/
import Derived.Test.YtlcigkdflbfdgaaDoorShW7
namespace Go.Proofs.YtlcigkdflbfdgaaDoor.sh
open Go Go.Eng Go.Sh
section
variable {os : List (Nat × AObj)} {A : AW} {Q : Value → AW → Prop} {l : List Thing}
theorem wakesG (hp : Hp (tabsOf os) A l) (H : Q (.bool true) A) : Goes (XX os) 1 11 [] A Q := by
  intro n hn
  cases n with
  | zero => omega
  | succ n =>
    refine ⟨.bool true, A, ?_, H⟩
    show iterU _ _ _ _ (n + 1) (.call _ _) A = _
    simp only [iterU]
    rw [sumTabs_at fun h r p e => (hp.tab h r p e).1]
def unqT : Option (List UInt8 × List UInt8) → ByteArray × ByteArray × Bool × Unit
  | some (b, r) => (BA b, BA r, true, ())
  | none => (BA [], BA [], false, ())
theorem unqV_prj (o : Option (List UInt8 × List UInt8)) : (RSh.tuple [(.cell .string), (.cell .string), (.cell .bool)]).prj (unqV o) = some (unqT o) := by
  cases o with
  | none => rfl
  | some p => rfl
theorem wordsG (s t : List UInt8) (hs : s.length < 2 ^ 36) (ht : t.length < 2 ^ 36) (hr : Runes os) : Gives (tabsOf os) (XX os) 6 3 [.string (BA s), .string (BA t)] (.bool true) := by
  intro A l Q hp H
  refine t3 (d := 5) (BA s, BA t, ()) fun n hn => ?_
  unfold f3
  refine (unquoteG t ht hr).use hn hp (unqV_prj _) fun A1 hp => ?_
  refine ((refUnquoteG t ht).mono (show 3 ≤ 5 by decide)).use hn hp (unqV_prj _) fun A2 hp => ?_
  rw [unq_one]
  unfold f3c0
  simp only [M.join]
  refine ((quoteGG s (by omega) hr).mono (show 4 ≤ 5 by decide)).use hn hp rfl fun A3 hp => ?_
  refine ((refQuoteG s (by omega)).mono (show 2 ≤ 5 by decide)).use hn hp rfl fun A4 hp => ?_
  have same : ∀ x : ByteArray, seq x x = true := fun x => by unfold seq; simp
  refine ev_t (same _) (ev_t (same _) (ev_t (same _) (ev_t (by simp) ?_)))
  exact (wakesG hp ⟨true, rfl, ev_pure (H A4 hp)⟩).mono (show 1 ≤ 5 by decide) |>.use hn
end
end Go.Proofs.YtlcigkdflbfdgaaDoor.sh
