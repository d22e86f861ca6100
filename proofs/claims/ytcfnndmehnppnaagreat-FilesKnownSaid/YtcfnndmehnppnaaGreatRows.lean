/-
  No cell of these rows narrows 'for every input' (looked for: loops, veiled, ifaces, maps, wideKeys, modest, calm, conditions, laid).
  DERIVED. THE GIVEN ROWS OF THIS SEAT. 3 by the template 'for every input the law returns true; each argument reads behind the call as it read before'; 0 by the template 'total and deterministic' (their statements: YtcfnndmehnppnaaGreatTotals.lean).
  GIVEN WITH THE SEED: the statements are not yours to turn. If you find one false, say at which input.
  Laid BY PROGRAM, IN A SANDBOX (cutbox-rows.mjs): the forced cells as the released guide's own fill.sh prints them over the translation 75d55782230c2342… (all of the seat's roots in one cut). By AI agents, Wed Nov 11 2026. No macro, syntax, notation, axiom, sorry.
-/
import Derived.Test.YtcfnndmehnppnaaGreatChecked
import GoSem.Claim
import GoSem.ClaimJoined
import GoSem.ClaimMapViews
import Derived.JoinedTies
import Derived.KernelRfl
namespace Go.Proofs.YtcfnndmehnppnaaGreat
/- THE CELL 'sum', in the pinned program and in every row, IS THE sha256 OF THE DUMP (.gsa) THAT YtcfnndmehnppnaaGreatProg.lean LOADS. Nothing in Lean hashes anything: it is a label: what it is worth is what the hold of that sum in a sandbox is worth. -/
noncomputable def Tryz.pinned : Pinned := { name := "ytcfnndmehnppnaagreat", sum := "75d55782230c234231ac8e2c12714fee8725f0bab4a6278bcd4e7a25abef1bd2", checked := Tryz.checked }
namespace Rows
def none {H : Type} : Left H := { results := [], args := [] }

/-- 'hayricklaw18.StoreKnown': WHATEVER THE INPUT: true; the input reads as it did. -/
def storeKnownSpec : ChangeSpec := { name := "storeKnown", fn := fun _ => fun
  | [] => { results := [.lit (.bool true)], args := [] }
  | _ => none }
def storeKnownRow : OpenClaim := { program := "ytcfnndmehnppnaagreat", sum := "75d55782230c234231ac8e2c12714fee8725f0bab4a6278bcd4e7a25abef1bd2", func := "hayrick/hayricklaw18.StoreKnown", spec := "storeKnown", unfollowed := true, recurses := true, apart := false }
def StoreKnownSaid : Prop := storeKnownRow.holds Tryz.pinned (OpenSpec.ofChange storeKnownSpec)

/-- ITS FALSE NEIGHBOUR: 'it returns false'. Refute it at one input. -/
def storeKnownWrong : ChangeSpec := { name := "storeKnown", fn := fun _ => fun
  | [] => { results := [.lit (.bool false)], args := [] }
  | _ => none }
def StoreKnownWrongFalsely : Prop := storeKnownRow.holds Tryz.pinned (OpenSpec.ofChange storeKnownWrong)

/-- 'hayricklaw17.LogKnown': WHATEVER THE INPUT: true; the input reads as it did. -/
def logKnownSpec : ChangeSpec := { name := "logKnown", fn := fun _ => fun
  | [] => { results := [.lit (.bool true)], args := [] }
  | _ => none }
def logKnownRow : OpenClaim := { program := "ytcfnndmehnppnaagreat", sum := "75d55782230c234231ac8e2c12714fee8725f0bab4a6278bcd4e7a25abef1bd2", func := "hayrick/hayricklaw17.LogKnown", spec := "logKnown", inPlace := ["internal/bytealg.MakeNoZero"], unfollowed := true, recurses := true, apart := false }
def LogKnownSaid : Prop := logKnownRow.holds Tryz.pinned (OpenSpec.ofChange logKnownSpec)

/-- ITS FALSE NEIGHBOUR: 'it returns false'. Refute it at one input. -/
def logKnownWrong : ChangeSpec := { name := "logKnown", fn := fun _ => fun
  | [] => { results := [.lit (.bool false)], args := [] }
  | _ => none }
def LogKnownWrongFalsely : Prop := logKnownRow.holds Tryz.pinned (OpenSpec.ofChange logKnownWrong)

/-- 'hayricklaw19.FilesKnown': WHATEVER THE INPUT: true; the input reads as it did. -/
def filesKnownSpec : ChangeSpec := { name := "filesKnown", fn := fun _ => fun
  | [] => { results := [.lit (.bool true)], args := [] }
  | _ => none }
def filesKnownRow : OpenClaim := { program := "ytcfnndmehnppnaagreat", sum := "75d55782230c234231ac8e2c12714fee8725f0bab4a6278bcd4e7a25abef1bd2", func := "hayrick/hayricklaw19.FilesKnown", spec := "filesKnown", inPlace := ["internal/bytealg.MakeNoZero"], unfollowed := true, recurses := true, apart := false }
def FilesKnownSaid : Prop := filesKnownRow.holds Tryz.pinned (OpenSpec.ofChange filesKnownSpec)

/-- ITS FALSE NEIGHBOUR: 'it returns false'. Refute it at one input. -/
def filesKnownWrong : ChangeSpec := { name := "filesKnown", fn := fun _ => fun
  | [] => { results := [.lit (.bool false)], args := [] }
  | _ => none }
def FilesKnownWrongFalsely : Prop := filesKnownRow.holds Tryz.pinned (OpenSpec.ofChange filesKnownWrong)

/- THE SECOND FORM. 'bulk': how many values and letters a reading holds, each counted each time it is reached (what is shared counts as often as it is met; a slice's spare places count too). A statement '..UptoSaid' is the law's where the arguments, and the package variables that the reading takes, are together of bulk at most 1048576: NARROWER than '..Said'. Prove '..Said' where nothing that the law and all that it calls make is longer than what came in: it says more and counts as full. Else prove '..UptoSaid'. A law counts once. -/
mutual
def uptoBulk {H : Type} : DataW H → Nat
  | .lit (.string bytes) => bytes.length + 1
  | .lit _ => 1
  | .nil => 1
  | .ptr d => uptoBulk d + 1
  | .slice elems spare => uptoBulkAll elems + uptoBulkAll spare + 1
  | .agg parts => uptoBulkAll parts + 1
  | .iface _ d => uptoBulk d + 1
  | .map entries => uptoBulkEntries entries + 1
  | .held _ => 1
def uptoBulkAll {H : Type} : List (DataW H) → Nat
  | [] => 0
  | d :: r => uptoBulk d + uptoBulkAll r
def uptoBulkEntries {H : Type} : List (Lit × DataW H) → Nat
  | [] => 0
  | x :: r => uptoBulkEntry x + uptoBulkEntries r
def uptoBulkEntry {H : Type} : Lit × DataW H → Nat
  | (.string bytes, d) => bytes.length + uptoBulk d + 1
  | (_, d) => uptoBulk d + 1
 end
def uptoSmall : (H : Type) → List (DataW H) → Bool := fun _ ds => decide (uptoBulkAll ds ≤ 1048576)
def OpenSpec.upto (s : _root_.Go.ChangeSpec) : _root_.Go.OpenSpec := { _root_.Go.OpenSpec.ofChange s with cond := some uptoSmall }

/-- 'hayricklaw18.StoreKnown', WHERE WHAT IT READS IS OF BULK AT MOST 1048576: true; the input reads as it did. -/
def storeKnownUptoRow : OpenClaim := { program := "ytcfnndmehnppnaagreat", sum := "75d55782230c234231ac8e2c12714fee8725f0bab4a6278bcd4e7a25abef1bd2", func := "hayrick/hayricklaw18.StoreKnown", spec := "storeKnown", unfollowed := true, recurses := true, apart := false, narrowed := true }
def StoreKnownUptoSaid : Prop := storeKnownUptoRow.holds Tryz.pinned (OpenSpec.upto storeKnownSpec)

/-- 'hayricklaw17.LogKnown', WHERE WHAT IT READS IS OF BULK AT MOST 1048576: true; the input reads as it did. -/
def logKnownUptoRow : OpenClaim := { program := "ytcfnndmehnppnaagreat", sum := "75d55782230c234231ac8e2c12714fee8725f0bab4a6278bcd4e7a25abef1bd2", func := "hayrick/hayricklaw17.LogKnown", spec := "logKnown", inPlace := ["internal/bytealg.MakeNoZero"], unfollowed := true, recurses := true, apart := false, narrowed := true }
def LogKnownUptoSaid : Prop := logKnownUptoRow.holds Tryz.pinned (OpenSpec.upto logKnownSpec)

/-- 'hayricklaw19.FilesKnown', WHERE WHAT IT READS IS OF BULK AT MOST 1048576: true; the input reads as it did. -/
def filesKnownUptoRow : OpenClaim := { program := "ytcfnndmehnppnaagreat", sum := "75d55782230c234231ac8e2c12714fee8725f0bab4a6278bcd4e7a25abef1bd2", func := "hayrick/hayricklaw19.FilesKnown", spec := "filesKnown", inPlace := ["internal/bytealg.MakeNoZero"], unfollowed := true, recurses := true, apart := false, narrowed := true }
def FilesKnownUptoSaid : Prop := filesKnownUptoRow.holds Tryz.pinned (OpenSpec.upto filesKnownSpec)

end Rows
end Go.Proofs.YtcfnndmehnppnaaGreat
