/-
  A slice of texts among the arguments: from the world to the walk.
-/
import Derived.Test.YtidadbppnmnfmaaGreatDoorPaPB
import Derived.Test.YtidadbppnmnfmaaGreatDoorPaP5
import Derived.SliceStrings
namespace Go.Proofs.YtidadbppnmnfmaaGreatDoor.pa
open Go Go.Eng Go.Sh Go.RowKit
noncomputable section
/-- Texts from off on; what lies ahead of them is not known. -/
def argRow (off : Nat) (L : List (List UInt8)) : Row := Row.ofList (List.replicate off (.tuple #[]) ++ strs L)
theorem argRow_list (off : Nat) (L : List (List UInt8)) : (argRow off L).list = List.replicate off (.tuple #[]) ++ strs L := Row.ofList_list _
theorem argRow_len (off : Nat) (L : List (List UInt8)) : (argRow off L).list.length = off + L.length := by rw [argRow_list, List.length_append, List.length_replicate, strs_len]
theorem argRow_at (off : Nat) (L : List (List UInt8)) (i : Nat) : (argRow off L).list.drop (off + i) = (strs L).drop i := by
  rw [argRow_list, List.drop_append, List.length_replicate, List.drop_of_length_le (by rw [List.length_replicate]; omega), List.nil_append]
  congr 1; omega
def os2 (p q : Obj) (r : Row) (o : Obj) : List (Nat × AObj) := tabOs p q ++ [(3, .pin r o)]
theorem low2 (p q : Obj) (r : Row) (o : Obj) : lowOs 3 (os2 p q r o) = tabOs p q := by
  unfold lowOs os2 tabOs
  rfl
theorem runes2 (p q : Obj) (r : Row) (o : Obj) : Runes (os2 p q r o) := ⟨⟨p, rfl⟩, ⟨q, rfl⟩⟩
theorem sees2 (p q o : Obj) (off : Nat) (L : List (List UInt8)) (l : List Thing) : Sees (tabsOf (os2 p q (argRow off L) o)) l (some ⟨3, off, none⟩) L := by
  intro A hp i hi
  refine ⟨_, rfl, ?_⟩
  have hA := (hp.tab 3 (argRow off L) o rfl).1
  have e : (⟨3, off, none⟩ : Addr).add i = ⟨3, off + i, none⟩ := by
    unfold Addr.add
    split
    · rename_i h; rw [h]; rfl
    · rfl
  rw [e]
  unfold AW.peek
  rw [hA]
  simp only [Option.isNone_none, cond_true]
  rw [Row.read_eq, if_pos (by rw [argRow_len]; omega), argRow_at, strs_at hi]
  rfl
theorem lk_os2 {p q o : Obj} {r : Row} {b : Nat} {x : AObj} (h : lkObj (os2 p q r o) b = some x) : (b = 0 ∧ x = .pin firstRow p) ∨ (b = 1 ∧ x = .pin accRow q) ∨ (b = 3 ∧ x = .pin r o) := by
  simp only [os2, tabOs, List.cons_append, List.nil_append, lkObj] at h
  split at h
  · rename_i e
    exact .inl ⟨e, (Option.some.inj h).symm⟩
  · split at h
    · rename_i e
      exact .inr (.inl ⟨e, (Option.some.inj h).symm⟩)
    · split at h
      · rename_i e
        exact .inr (.inr ⟨e, (Option.some.inj h).symm⟩)
      · cases h
theorem first_no : ∀ v ∈ firstRow.list, ∀ s, v ≠ .string s := fun v hv s e => by
  rw [show firstRow.list = firstZ.map fun z => .int .u8 z from by unfold firstRow firstZ; rw [Row.ofList_list, List.map_map]; rfl] at hv
  obtain ⟨z, _, rfl⟩ := List.mem_map.1 hv
  cases e
theorem acc_no : ∀ v ∈ accRow.list, ∀ s, v ≠ .string s := fun v hv s e => by
  rw [show accRow.list = accZ.flatMap fun z => [.int .u8 z.1, .int .u8 z.2] from by unfold accRow; rw [Row.ofList_list]; rfl] at hv
  obtain ⟨z, _, hz⟩ := List.mem_flatMap.1 hv
  simp only [List.mem_cons, List.not_mem_nil, or_false] at hz
  rcases hz with rfl | rfl <;> cases e
theorem tab_no {W : World} {g : Nat} {r : Row} {p : Obj} (h : TabAt W g r p) (hno : ∀ v ∈ r.list, ∀ s, v ≠ .string s) {arr : Array Value} {e : TypeId} {fz : Nat × Nat} {i : Nat} {s : ByteArray} (ho : W.heap[g]? = some (.cells arr e fz)) (hi : arr.toList[i]? = some (.string s)) : False := by
  obtain ⟨h1, arr', e', fz', rfl, h3, _⟩ := h
  rw [ho] at h1
  injection Option.some.inj h1 with k1
  subst k1
  rw [h3] at hi
  exact hno _ (List.mem_of_getElem? hi) s rfl
def cm2 (c b : Nat) : Nat := if b = 3 then c else b
theorem pins2 {W : World} {p q : Obj} {r : Row} {c : Nat} {arr : Array Value} {e : TypeId} {fz : Nat × Nat} (hp : TabAt W 0 firstRow p) (hq : TabAt W 1 accRow q) (ho : W.heap[c]? = some (.cells arr e fz)) (hlen : r.list.length ≤ arr.toList.length)
    (hv : ∀ (i : Nat) v u, r.list[i]? = some v → notHole v = true → arr.toList[i]? = some u → ∃ s, v = .string s ∧ u = .string s) (hex : ∃ (i : Nat) (s : ByteArray), arr.toList[i]? = some (.string s)) :
    PinsOk PP (os2 p q r (.cells arr e fz)) (3 + 1) (cm2 c) W := by
  obtain ⟨i0, s0, h0⟩ := hex
  have hs : PP.globals.size = 3 := by kernel_rfl
  have c0 : c ≠ 0 := fun e0 => tab_no hp first_no (e0 ▸ ho) h0
  have c1 : c ≠ 1 := fun e0 => tab_no hq acc_no (e0 ▸ ho) h0
  refine ⟨fun b o hb => ?_, fun b b' o o' hb hb' hc => ?_, by rw [hs]; omega, fun g hg => ?_⟩
  · rcases lk_os2 hb with ⟨rfl, rfl⟩ | ⟨rfl, rfl⟩ | ⟨rfl, rfl⟩
    · exact ⟨by decide, _, p, rfl, hp.row _⟩
    · exact ⟨by decide, _, q, rfl, hq.row _⟩
    · refine ⟨by decide, _, _, rfl, by unfold cm2; rw [if_pos rfl]; exact ho, arr, e, fz, rfl, hlen, fun i v u g1 g2 g3 => ?_⟩
      obtain ⟨s, rfl, rfl⟩ := hv i v u g1 g2 g3
      exact .string s
  · unfold cm2 at hc
    rcases lk_os2 hb with ⟨rfl, _⟩ | ⟨rfl, _⟩ | ⟨rfl, _⟩ <;> rcases lk_os2 hb' with ⟨rfl, _⟩ | ⟨rfl, _⟩ | ⟨rfl, _⟩ <;> simp at hc ⊢
    · exact c0 hc.symm
    · exact c1 hc.symm
    · exact c0 hc
    · exact c1 hc
  · rw [hs] at hg
    unfold cm2
    rw [if_neg (by omega)]
/-- PathBack, whatever slice of texts comes in. -/
theorem back_slice {W : World} {p q : Obj} (hp : TabAt W 0 firstRow p) (hq : TabAt W 1 accRow q) (s : ByteArray) (a : Addr) (cap : Nat) (L : List (List UInt8)) (hcap : L.length ≤ cap)
    (hc : ∀ (i : Nat) (hi : i < L.length), W.cell? (a.add i) = some (.string (BA (L[i]'hi)))) (hW : (slashed L).length < 2 ^ 38) (hL : L.length < 2 ^ 38) :
    CallsIn Fence.wide 0 PP 4 #[.string s, .slice (some a) L.length cap] W fun e w' => e = .returned (.bool true) ∧ Below W.heap.size W w' := by
  rw [BA_of s]
  by_cases hL0 : L = []
  · subst hL0
    refine callsAt (us := [.string (BA s.data.toList), .slice (some a) 0 cap]) (args := [.string (BA s.data.toList), .slice (some ⟨3, a.off, a.spot⟩) 0 cap]) (low_tab p q) (tabs_pins (nx := 3 + 1) hp hq (by decide)) ⟨rfl, fun i x y hx hy => ?_⟩
      (backG s.data.toList (L := []) (fun l A _ i hi => by simp at hi) (by decide) (by decide) (runes p q))
    match i, hx, hy with
    | 0, hx, hy =>
      obtain rfl := Option.some.inj hx
      obtain rfl := Option.some.inj hy
      exact .string _
    | 1, hx, hy =>
      obtain rfl := Option.some.inj hx
      obtain rfl := Option.some.inj hy
      exact .slice 0 ⟨⟨Nat.zero_le _, Nat.le_refl _⟩, none, rfl, fun d e h => by cases h⟩
  · have hpos : 0 < L.length := List.length_pos_iff.2 hL0
    have hc0 := hc 0 hpos
    have key : ∃ arr e fz, W.heap[a.block]? = some (.cells arr e fz) ∧ a.spot = none ∧ ∀ (i : Nat) (hi : i < L.length), arr.toList[a.off + i]? = some (.string (BA (L[i]'hi))) := by
      rw [show a.add 0 = a from by unfold Addr.add; rw [if_pos rfl]] at hc0
      unfold World.cell? at hc0
      split at hc0
      · rename_i arr e fz he
        split at hc0
        · cases hc0
        · rename_i hsp
          have hsp : a.spot = none := by simpa using hsp
          refine ⟨arr, e, fz, he, hsp, fun i hi => ?_⟩
          have h1 := hc i hi
          have e1 : a.add i = ⟨a.block, a.off + i, none⟩ := by
            unfold Addr.add
            split
            · rename_i h; subst h; rw [← hsp]; rfl
            · rfl
          rw [e1] at h1
          unfold World.cell? at h1
          simp only [he] at h1
          simpa using h1
      · cases hc0
    obtain ⟨arr, e, fz, he, hsp, hcs⟩ := key
    have hp2 : PinsOk PP (os2 p q (argRow a.off L) (.cells arr e fz)) (3 + 1) (cm2 a.block) W := by
      refine pins2 hp hq he ?_ (fun i v u g1 g2 g3 => ?_) ⟨a.off + 0, _, hcs 0 hpos⟩
      · rw [argRow_len]
        have := hcs (L.length - 1) (by omega)
        have := (List.getElem?_eq_some_iff.1 this).1
        omega
      · rw [argRow_list] at g1
        by_cases hi : i < a.off
        · rw [List.getElem?_append_left (by rw [List.length_replicate]; exact hi), List.getElem?_replicate, if_pos hi] at g1
          obtain rfl := Option.some.inj g1
          cases g2
        · rw [List.getElem?_append_right (by rw [List.length_replicate]; omega), List.length_replicate] at g1
          unfold strs at g1
          rw [List.getElem?_map] at g1
          cases hLi : L[i - a.off]? with
          | none => rw [hLi] at g1; cases g1
          | some y =>
            rw [hLi] at g1
            obtain rfl := Option.some.inj g1
            obtain ⟨hi2, rfl⟩ := List.getElem?_eq_some_iff.1 hLi
            have := hcs _ hi2
            rw [show a.off + (i - a.off) = i by omega, g3] at this
            exact ⟨_, rfl, Option.some.inj this⟩
    refine callsAt (us := [.string (BA s.data.toList), .slice (some a) L.length cap]) (args := [.string (BA s.data.toList), .slice (some ⟨3, a.off, none⟩) L.length cap]) (low2 ..) hp2 ⟨rfl, fun i x y hx hy => ?_⟩
      (backG s.data.toList (sees2 p q _ a.off L) hW hL (runes2 ..))
    match i, hx, hy with
    | 0, hx, hy =>
      obtain rfl := Option.some.inj hx
      obtain rfl := Option.some.inj hy
      exact .string _
    | 1, hx, hy =>
      obtain rfl := Option.some.inj hx
      obtain rfl := Option.some.inj hy
      refine .slice _ ⟨⟨hcap, Nat.le_refl _⟩, some (a.block, 0), rfl, fun d e h => ?_⟩
      obtain ⟨rfl, rfl⟩ := Prod.mk.injEq .. ▸ Option.some.inj h
      exact ⟨.inl rfl, .inr ⟨rfl, hsp.symm, rfl⟩⟩
theorem back_nil {W : World} {p q : Obj} (hp : TabAt W 0 firstRow p) (hq : TabAt W 1 accRow q) (s : ByteArray) :
    CallsIn Fence.wide 0 PP 4 #[.string s, .slice none 0 0] W fun e w' => e = .returned (.bool true) ∧ Below W.heap.size W w' := by
  rw [BA_of s]
  refine callsAt (us := [.string (BA s.data.toList), .slice none 0 0]) (args := [.string (BA s.data.toList), .slice none 0 0]) (low_tab p q) (tabs_pins hp hq (Nat.le_refl _)) ⟨rfl, fun i x y hx hy => ?_⟩
    (backG s.data.toList (L := []) (fun l A _ i hi => by simp at hi) (by decide) (by decide) (runes p q))
  match i, hx, hy with
  | 0, hx, hy =>
    obtain rfl := Option.some.inj hx
    obtain rfl := Option.some.inj hy
    exact .string _
  | 1, hx, hy =>
    obtain rfl := Option.some.inj hx
    obtain rfl := Option.some.inj hy
    exact .nilSlice (Nat.le_refl _)
end
end Go.Proofs.YtidadbppnmnfmaaGreatDoor.pa
