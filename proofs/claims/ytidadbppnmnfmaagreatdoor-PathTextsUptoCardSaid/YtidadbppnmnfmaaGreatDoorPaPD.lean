/-
  A slice of texts behind other arguments: from the world to any walk.
-/
import Derived.Test.YtidadbppnmnfmaaGreatDoorPaPC
import Derived.Test.YtidadbppnmnfmaaGreatDoorPaP7
namespace Go.Proofs.YtidadbppnmnfmaaGreatDoor.pa
open Go Go.Eng Go.Sh Go.RowKit
noncomputable section
theorem rs_snoc {φ : Phi} {pre : List Value} {x y : Value} (hpre : pre.all solid = true) (h : VR φ x y) : Rs φ (pre ++ [x]) (pre ++ [y]) := by
  refine ⟨by simp, fun i u v hu hv => ?_⟩
  by_cases hi : i < pre.length
  · rw [List.getElem?_append_left hi] at hu hv
    rw [hu] at hv
    obtain rfl := Option.some.inj hv
    exact solid_vr (List.all_eq_true.1 hpre u (List.mem_of_getElem? hu))
  · rw [List.getElem?_append_right (by omega)] at hu hv
    obtain ⟨k, hk⟩ : ∃ k, i - pre.length = k := ⟨_, rfl⟩
    rw [hk] at hu hv
    cases k with
    | zero =>
      obtain rfl := Option.some.inj hu
      obtain rfl := Option.some.inj hv
      exact h
    | succ k => simp at hu
theorem lies2 (p q o : Obj) (off : Nat) (L : List (List UInt8)) : Lies (tabsOf (os2 p q (argRow off L) o)) (some ⟨3, off, none⟩) L := by
  intro A hp m c
  have hA := (hp.tab 3 (argRow off L) o rfl).1
  unfold AW.elems AW.peek
  simp only [hA, Option.isNone_none, cond_true]
  rw [Nat.mul_one, Row.read_eq, if_pos (by rw [argRow_len]; omega)]
  have e : ((argRow off L).list.drop off).take L.length = strs L := by
    have := argRow_at off L 0
    rw [Nat.add_zero, List.drop_zero] at this
    rw [this, List.take_of_length_le (by rw [strs_len]; omega)]
  simp only [e]
  have : (strs L).all notHole = true := by
    rw [List.all_eq_true]
    intro v hv
    obtain ⟨x, _, rfl⟩ := List.mem_map.1 hv
    rfl
  rw [this]
  rfl
theorem lies0 (p q : Obj) : Lies (tabsOf (tabOs p q)) (some ⟨0, 0, none⟩) [] := by
  intro A hp m c
  have hA := (hp.tab 0 firstRow p rfl).1
  unfold AW.elems AW.peek
  simp only [hA, Option.isNone_none, cond_true, List.length_nil, Nat.zero_mul]
  rw [Row.read_eq, if_pos (Nat.zero_le _)]
  rfl
/-- A call with a slice of texts behind other arguments. -/
theorem slice_calls {W : World} {p q : Obj} (hp : TabAt W 0 firstRow p) (hq : TabAt W 1 accRow q) {d f : Nat} (pre : List Value) (hpre : pre.all solid = true) (a : Addr) (cap : Nat) (L : List (List UInt8)) (hcap : L.length ≤ cap)
    (hc : ∀ (i : Nat) (hi : i < L.length), W.cell? (a.add i) = some (.string (BA (L[i]'hi)))) (hc0 : 0 < cap → ∃ s, W.cell? a = some (.string s))
    (hg : ∀ os b c, Runes os → (∀ l, Sees (tabsOf os) l b L) → Lies (tabsOf os) b L → Gives (tabsOf os) (XX os) d f (pre ++ [Value.slice b L.length c]) (.bool true)) :
    CallsIn Fence.wide 0 PP f (pre ++ [Value.slice (some a) L.length cap]).toArray W fun e w' => e = .returned (.bool true) ∧ Below W.heap.size W w' := by
  by_cases hcap0 : cap = 0
  · subst hcap0
    obtain rfl : L = [] := List.eq_nil_of_length_eq_zero (by omega)
    refine callsAt (us := pre ++ [Value.slice (some a) 0 0]) (args := pre ++ [Value.slice (some ⟨0, 0, none⟩) 0 0]) (low_tab p q) (tabs_pins hp hq (Nat.le_refl _)) (rs_snoc hpre ?_)
      (hg (tabOs p q) (some ⟨0, 0, none⟩) 0 (runes p q) (fun l A _ i hi => by simp at hi) (lies0 p q))
    exact .slice 0 ⟨⟨Nat.le_refl _, Nat.le_refl _⟩, some (0, 0), rfl, fun d e h => ⟨.inl rfl, .inl ⟨rfl, rfl⟩⟩⟩
  · obtain ⟨s0, hs0⟩ := hc0 (by omega)
    have key : ∃ arr e fz, W.heap[a.block]? = some (.cells arr e fz) ∧ a.spot = none ∧ arr.toList[a.off]? = some (.string s0) ∧ ∀ (i : Nat) (hi : i < L.length), arr.toList[a.off + i]? = some (.string (BA (L[i]'hi))) := by
      have h0 := hs0
      unfold World.cell? at h0
      split at h0
      · rename_i arr e fz he
        split at h0
        · cases h0
        · rename_i hsp
          have hsp : a.spot = none := by simpa using hsp
          refine ⟨arr, e, fz, he, hsp, by simpa using h0, fun i hi => ?_⟩
          have h1 := hc i hi
          have e1 : a.add i = ⟨a.block, a.off + i, none⟩ := by
            unfold Addr.add
            split
            · rename_i h; subst h; rw [← hsp]; rfl
            · rfl
          rw [e1] at h1
          unfold World.cell? at h1
          simp only [he] at h1
          simpa using h1
      · cases h0
    obtain ⟨arr, e, fz, he, hsp, hc0', hcs⟩ := key
    have hp2 : PinsOk PP (os2 p q (argRow a.off L) (.cells arr e fz)) (3 + 1) (cm2 a.block) W := by
      refine pins2 hp hq he ?_ (fun i v u g1 g2 g3 => ?_) ⟨a.off, _, hc0'⟩
      · rw [argRow_len]
        by_cases hL0 : L.length = 0
        · have := (List.getElem?_eq_some_iff.1 hc0').1
          omega
        · have := hcs (L.length - 1) (by omega)
          have := (List.getElem?_eq_some_iff.1 this).1
          omega
      · rw [argRow_list] at g1
        by_cases hi : i < a.off
        · rw [List.getElem?_append_left (by rw [List.length_replicate]; exact hi), List.getElem?_replicate, if_pos hi] at g1
          obtain rfl := Option.some.inj g1
          cases g2
        · rw [List.getElem?_append_right (by rw [List.length_replicate]; omega), List.length_replicate] at g1
          unfold strs at g1
          rw [List.getElem?_map] at g1
          cases hLi : L[i - a.off]? with
          | none => rw [hLi] at g1; cases g1
          | some y =>
            rw [hLi] at g1
            obtain rfl := Option.some.inj g1
            obtain ⟨hi2, rfl⟩ := List.getElem?_eq_some_iff.1 hLi
            have := hcs _ hi2
            rw [show a.off + (i - a.off) = i by omega, g3] at this
            exact ⟨_, rfl, Option.some.inj this⟩
    refine callsAt (us := pre ++ [Value.slice (some a) L.length cap]) (args := pre ++ [Value.slice (some ⟨3, a.off, none⟩) L.length cap]) (low2 ..) hp2 (rs_snoc hpre ?_)
      (hg (os2 p q (argRow a.off L) (.cells arr e fz)) (some ⟨3, a.off, none⟩) cap (runes2 ..) (sees2 p q _ a.off L) (lies2 p q _ a.off L))
    refine .slice _ ⟨⟨hcap, Nat.le_refl _⟩, some (a.block, 0), rfl, fun d e h => ?_⟩
    obtain ⟨rfl, rfl⟩ := Prod.mk.injEq .. ▸ Option.some.inj h
    exact ⟨.inl rfl, .inr ⟨rfl, hsp.symm, rfl⟩⟩
theorem nil_calls {W : World} {p q : Obj} (hp : TabAt W 0 firstRow p) (hq : TabAt W 1 accRow q) {d f : Nat} (pre : List Value) (hpre : pre.all solid = true)
    (hg : ∀ os b c, Runes os → (∀ l, Sees (tabsOf os) l b []) → Lies (tabsOf os) b [] → Gives (tabsOf os) (XX os) d f (pre ++ [Value.slice b 0 c]) (.bool true)) :
    CallsIn Fence.wide 0 PP f (pre ++ [Value.slice none 0 0]).toArray W fun e w' => e = .returned (.bool true) ∧ Below W.heap.size W w' :=
  callsAt (us := pre ++ [Value.slice none 0 0]) (args := pre ++ [Value.slice none 0 0]) (low_tab p q) (tabs_pins hp hq (Nat.le_refl _)) (rs_snoc hpre (.nilSlice (Nat.le_refl _)))
    (hg (tabOs p q) none 0 (runes p q) (fun l A _ i hi => by simp at hi) (fun A _ m c => rfl))
end
end Go.Proofs.YtidadbppnmnfmaaGreatDoor.pa
