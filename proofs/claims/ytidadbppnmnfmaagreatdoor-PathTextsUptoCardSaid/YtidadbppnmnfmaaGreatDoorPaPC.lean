/-
  A slice of texts among the arguments: from the world to the walk.
-/
import Derived.Test.YtidadbppnmnfmaaGreatDoorPaPB
import Derived.Test.YtidadbppnmnfmaaGreatDoorPaP4
import Derived.SliceStrings
namespace Go.Proofs.YtidadbppnmnfmaaGreatDoor.pa
open Go Go.Eng Go.Sh Go.RowKit
noncomputable section
/-- Texts from off on; what lies ahead of them is not known. -/
def argRow (off : Nat) (L : List (List UInt8)) : Row := Row.ofList (List.replicate off (.tuple #[]) ++ strs L)
theorem argRow_list (off : Nat) (L : List (List UInt8)) : (argRow off L).list = List.replicate off (.tuple #[]) ++ strs L := Row.ofList_list _
theorem argRow_len (off : Nat) (L : List (List UInt8)) : (argRow off L).list.length = off + L.length := by rw [argRow_list, List.length_append, List.length_replicate, strs_len]
theorem argRow_at (off : Nat) (L : List (List UInt8)) (i : Nat) : (argRow off L).list.drop (off + i) = (strs L).drop i := by
  rw [argRow_list, List.drop_append, List.length_replicate, List.drop_of_length_le (by rw [List.length_replicate]; omega), List.nil_append]
  congr 1; omega
def os2 (p q : Obj) (r : Row) (o : Obj) : List (Nat × AObj) := tabOs p q ++ [(3, .pin r o)]
theorem low2 (p q : Obj) (r : Row) (o : Obj) : lowOs 3 (os2 p q r o) = tabOs p q := by
  unfold lowOs os2 tabOs
  rfl
theorem runes2 (p q : Obj) (r : Row) (o : Obj) : Runes (os2 p q r o) := ⟨⟨p, rfl⟩, ⟨q, rfl⟩⟩
theorem sees2 (p q o : Obj) (off : Nat) (L : List (List UInt8)) (l : List Thing) : Sees (tabsOf (os2 p q (argRow off L) o)) l (some ⟨3, off, none⟩) L := by
  intro A hp i hi
  refine ⟨_, rfl, ?_⟩
  have hA := (hp.tab 3 (argRow off L) o rfl).1
  have e : (⟨3, off, none⟩ : Addr).add i = ⟨3, off + i, none⟩ := by
    unfold Addr.add
    split
    · rename_i h; rw [h]; rfl
    · rfl
  rw [e]
  unfold AW.peek
  rw [hA]
  simp only [Option.isNone_none, cond_true]
  rw [Row.read_eq, if_pos (by rw [argRow_len]; omega), argRow_at, strs_at hi]
  rfl
theorem lk_os2 {p q o : Obj} {r : Row} {b : Nat} {x : AObj} (h : lkObj (os2 p q r o) b = some x) : (b = 0 ∧ x = .pin firstRow p) ∨ (b = 1 ∧ x = .pin accRow q) ∨ (b = 3 ∧ x = .pin r o) := by
  simp only [os2, tabOs, List.cons_append, List.nil_append, lkObj] at h
  split at h
  · rename_i e
    exact .inl ⟨e, (Option.some.inj h).symm⟩
  · split at h
    · rename_i e
      exact .inr (.inl ⟨e, (Option.some.inj h).symm⟩)
    · split at h
      · rename_i e
        exact .inr (.inr ⟨e, (Option.some.inj h).symm⟩)
      · cases h
theorem first_no : ∀ v ∈ firstRow.list, ∀ s, v ≠ .string s := fun v hv s e => by
  rw [show firstRow.list = firstZ.map fun z => .int .u8 z from by unfold firstRow firstZ; rw [Row.ofList_list, List.map_map]; rfl] at hv
  obtain ⟨z, _, rfl⟩ := List.mem_map.1 hv
  cases e
theorem acc_no : ∀ v ∈ accRow.list, ∀ s, v ≠ .string s := fun v hv s e => by
  rw [show accRow.list = accZ.flatMap fun z => [.int .u8 z.1, .int .u8 z.2] from by unfold accRow; rw [Row.ofList_list]; rfl] at hv
  obtain ⟨z, _, hz⟩ := List.mem_flatMap.1 hv
  simp only [List.mem_cons, List.not_mem_nil, or_false] at hz
  rcases hz with rfl | rfl <;> cases e
theorem tab_no {W : World} {g : Nat} {r : Row} {p : Obj} (h : TabAt W g r p) (hno : ∀ v ∈ r.list, ∀ s, v ≠ .string s) {arr : Array Value} {e : TypeId} {fz : Nat × Nat} {i : Nat} {s : ByteArray} (ho : W.heap[g]? = some (.cells arr e fz)) (hi : arr.toList[i]? = some (.string s)) : False := by
  obtain ⟨h1, arr', e', fz', rfl, h3, _⟩ := h
  rw [ho] at h1
  injection Option.some.inj h1 with k1
  subst k1
  rw [h3] at hi
  exact hno _ (List.mem_of_getElem? hi) s rfl
def cm2 (c b : Nat) : Nat := if b = 3 then c else b
theorem pins2 {W : World} {p q : Obj} {r : Row} {c : Nat} {arr : Array Value} {e : TypeId} {fz : Nat × Nat} (hp : TabAt W 0 firstRow p) (hq : TabAt W 1 accRow q) (ho : W.heap[c]? = some (.cells arr e fz)) (hlen : r.list.length ≤ arr.toList.length)
    (hv : ∀ (i : Nat) v u, r.list[i]? = some v → notHole v = true → arr.toList[i]? = some u → ∃ s, v = .string s ∧ u = .string s) (hex : ∃ (i : Nat) (s : ByteArray), arr.toList[i]? = some (.string s)) :
    PinsOk PP (os2 p q r (.cells arr e fz)) (3 + 1) (cm2 c) W := by
  obtain ⟨i0, s0, h0⟩ := hex
  have hs : PP.globals.size = 3 := by kernel_rfl
  have c0 : c ≠ 0 := fun e0 => tab_no hp first_no (e0 ▸ ho) h0
  have c1 : c ≠ 1 := fun e0 => tab_no hq acc_no (e0 ▸ ho) h0
  refine ⟨fun b o hb => ?_, fun b b' o o' hb hb' hc => ?_, by rw [hs]; omega, fun g hg => ?_⟩
  · rcases lk_os2 hb with ⟨rfl, rfl⟩ | ⟨rfl, rfl⟩ | ⟨rfl, rfl⟩
    · exact ⟨by decide, _, p, rfl, hp.row _⟩
    · exact ⟨by decide, _, q, rfl, hq.row _⟩
    · refine ⟨by decide, _, _, rfl, by unfold cm2; rw [if_pos rfl]; exact ho, arr, e, fz, rfl, hlen, fun i v u g1 g2 g3 => ?_⟩
      obtain ⟨s, rfl, rfl⟩ := hv i v u g1 g2 g3
      exact .string s
  · unfold cm2 at hc
    rcases lk_os2 hb with ⟨rfl, _⟩ | ⟨rfl, _⟩ | ⟨rfl, _⟩ <;> rcases lk_os2 hb' with ⟨rfl, _⟩ | ⟨rfl, _⟩ | ⟨rfl, _⟩ <;> simp at hc ⊢
    · exact c0 hc.symm
    · exact c1 hc.symm
    · exact c0 hc
    · exact c1 hc
  · rw [hs] at hg
    unfold cm2
    rw [if_neg (by omega)]
end
end Go.Proofs.YtidadbppnmnfmaaGreatDoor.pa
