/-
  From the row's list to the tables; calls from a world that holds them.
-/
import Derived.Test.YtidadbppnmnfmaaGreatDoorPaPA
import Derived.Test.YtidadbppnmnfmaaGreatDoorPaP2
import Derived.Test.YtidadbppnmnfmaaGreatDoorEng31
import Derived.Test.YtidadbppnmnfmaaGreatDoorRows
namespace Go.Proofs.YtidadbppnmnfmaaGreatDoor.pa
open Go Go.Eng Go.Sh Go.RowKit
noncomputable section
def firstZ : List Int := (List.range 256).map fun c => ((firstN c : Nat) : Int)
def accZ : List (Int × Int) := [(128, 191), (160, 191), (128, 159), (144, 191), (128, 143)] ++ List.replicate 11 (0, 0)
/-- The laid tables; p, q: the world's objects that hold them. -/
def tabOs (p q : Obj) : List (Nat × AObj) := [(0, .pin firstRow p), (1, .pin accRow q)]
theorem runes (p q : Obj) : Runes (tabOs p q) := ⟨⟨p, rfl⟩, ⟨q, rfl⟩⟩
theorem tabs_at {laid : List (String × DataW Unit)} {W : World} (h : laidMetH PP laid W) (hpl : (laid.all fun x => x.2.handleName?.isNone) = true)
    (m0 : ("unicode/utf8.first", .agg (firstZ.map fun z => .lit (.int .u8 z))) ∈ laid) (m1 : ("unicode/utf8.acceptRanges", .agg (accZ.map fun z => .agg [.lit (.int .u8 z.1), .lit (.int .u8 z.2)])) ∈ laid) : ∃ p q, TabAt W 0 firstRow p ∧ TabAt W 1 accRow q := by
  rw [MakeChecks.laidMetH_plain _ _ _ hpl] at h
  obtain ⟨ps, hl, _, _⟩ := h
  obtain ⟨p, hp⟩ := tab_ints (g := 0) (t := 155) (r := firstRow) hl m0 (by kernel_rfl) (by kernel_rfl) Tryz.underlying155 (by kernel_rfl) (by kernel_rfl) (by kernel_rfl) (by
    unfold firstRow firstZ; rw [Row.ofList_list, List.map_map]; rfl)
  obtain ⟨q, hq⟩ := tab_pairs (g := 1) (t := 158) (r := accRow) hl m1 (by kernel_rfl) (by kernel_rfl) Tryz.underlying158 Tryz.underlying157 rfl rfl rfl rfl (by kernel_rfl) (by kernel_rfl) (by kernel_rfl) (by kernel_rfl) (by
    unfold accRow; rw [Row.ofList_list]; rfl)
  exact ⟨p, q, hp, hq⟩
theorem tabs_pins {W : World} {p q : Obj} {nx : Nat} (hp : TabAt W 0 firstRow p) (hq : TabAt W 1 accRow q) (hn : 3 ≤ nx) : PinsOk PP (tabOs p q) nx id W := by
  have hs : PP.globals.size = 3 := by kernel_rfl
  refine ⟨fun b o ho => ?_, fun b b' _ _ _ _ h => h, by rw [hs]; exact hn, fun _ _ => rfl⟩
  simp only [tabOs, lkObj] at ho
  split at ho
  · rename_i e; subst e
    obtain rfl := Option.some.inj ho
    exact ⟨Nat.lt_of_lt_of_le (by decide) hn, _, p, rfl, hp.row _⟩
  · split at ho
    · rename_i e; subst e
      obtain rfl := Option.some.inj ho
      exact ⟨Nat.lt_of_lt_of_le (by decide) hn, _, q, rfl, hq.row _⟩
    · cases ho
theorem tabs_of {laid : List (String × DataW Unit)} {W : World} (h : laidMetH PP laid W) (hpl : (laid.all fun x => x.2.handleName?.isNone) = true)
    (m0 : ("unicode/utf8.first", .agg (firstZ.map fun z => .lit (.int .u8 z))) ∈ laid) (m1 : ("unicode/utf8.acceptRanges", .agg (accZ.map fun z => .agg [.lit (.int .u8 z.1), .lit (.int .u8 z.2)])) ∈ laid) : ∃ p q, PinsOk PP (tabOs p q) PP.globals.size id W := by
  obtain ⟨p, q, hp, hq⟩ := tabs_at h hpl m0 m1
  have hs : PP.globals.size = 3 := by kernel_rfl
  exact ⟨p, q, tabs_pins hp hq (by rw [hs]; exact Nat.le_refl _)⟩
theorem lk_tab {p q : Obj} {b : Nat} {o : AObj} (h : lkObj (tabOs p q) b = some o) : (b = 0 ∧ o = .pin firstRow p) ∨ (b = 1 ∧ o = .pin accRow q) := by
  simp only [tabOs, lkObj] at h
  split at h
  · rename_i e
    exact .inl ⟨e, (Option.some.inj h).symm⟩
  · split at h
    · rename_i e
      exact .inr ⟨e, (Option.some.inj h).symm⟩
    · cases h
theorem first_solid : ∀ v ∈ firstRow.list, solid1 v = true := fun v hv => by
  rw [show firstRow.list = firstZ.map fun z => .int .u8 z from by unfold firstRow firstZ; rw [Row.ofList_list, List.map_map]; rfl] at hv
  exact plain_ints _ v hv
theorem acc_solid : ∀ v ∈ accRow.list, solid1 v = true := fun v hv => by
  rw [show accRow.list = accZ.flatMap fun z => [.int .u8 z.1, .int .u8 z.2] from by unfold accRow; rw [Row.ofList_list]; rfl] at hv
  obtain ⟨z, _, hz⟩ := List.mem_flatMap.1 hv
  simp only [List.mem_cons, List.not_mem_nil, or_false] at hz
  rcases hz with rfl | rfl <;> rfl
theorem sumsOk {os : List (Nat × AObj)} (p q : Obj) (hos : lowOs 3 os = tabOs p q) : SumsUOk PP (sumTabs 13 (.bool true) (lowOs 3 os)) := by
  rw [hos]
  exact sumTabs_ok rfl (fun b o hb => by
    have hs : PP.globals.size = 3 := by kernel_rfl
    rw [hs]
    rcases lk_tab hb with ⟨rfl, rfl⟩ | ⟨rfl, rfl⟩
    · exact ⟨by decide, _, _, rfl, first_solid⟩
    · exact ⟨by decide, _, _, rfl, acc_solid⟩) (fun w _ => wakesCalls w)
theorem iokU {os : List (Nat × AObj)} (p q : Obj) (hos : lowOs 3 os = tabOs p q) (n : Nat) : IOk PP { call := XX os n, loop := LL } := iok_iterU (C := CC) (k := 1000000000000) cok tk0 (sumsOk p q hos) n
/-- A call that is walked, from a world that holds the tables, and more. -/
theorem callsAt {d f nx : Nat} {args us : List Value} {os : List (Nat × AObj)} {cm : Nat → Nat} {p q : Obj} {w : World} (hos : lowOs 3 os = tabOs p q) (hw : PinsOk PP os nx cm w) (hR : Rs (phi1 os nx cm) args us) (hg : Gives (tabsOf os) (XX os) d f args (.bool true)) :
    CallsIn Fence.wide 0 PP f us.toArray w fun e w' => e = .returned (.bool true) ∧ Below w.heap.size w w' := by
  have hp : Hp (tabsOf os) (layW os nx) [] := Hp.nil _ fun g r' p' hg' => by
    unfold tabsOf at hg'
    split at hg'
    · rename_i x y hx
      obtain ⟨rfl, rfl⟩ := Prod.mk.injEq .. ▸ Option.some.inj hg'
      exact ⟨by rw [layW_get, hx], (hw.key _ _ hx).1⟩
    · cases hg'
  obtain ⟨x, A', h1, rfl, h3⟩ := hg _ [] (fun v A' => v = .bool true ∧ Hp (tabsOf os) A' []) hp (fun A' h' => ⟨rfl, h'⟩) d (Nat.le_refl _)
  refine closedP (f := f) (args := args) (v := .bool true) (A' := A') (iokU p q hos d) hw hR rfl h1 fun b o hb => ?_
  obtain ⟨_, r', p', rfl, _⟩ := hw.key b o hb
  rw [(h3.tab b r' p' (tabsOf_some hb)).1]
theorem low_tab (p q : Obj) : lowOs 3 (tabOs p q) = tabOs p q := by
  unfold lowOs tabOs
  rfl
theorem callsOf {d f : Nat} {args : List Value} (ha : args.all solid = true) (hg : ∀ p q, Gives (tabsOf (tabOs p q)) (XX (tabOs p q)) d f args (.bool true)) (w : World) (h : ∃ p q, PinsOk PP (tabOs p q) PP.globals.size id w) :
    CallsIn Fence.wide 0 PP f args.toArray w fun e w' => e = .returned (.bool true) ∧ Below w.heap.size w w' := by
  obtain ⟨p, q, hw⟩ := h
  exact callsAt (low_tab p q) hw ⟨rfl, fun i x y hx hy => by
    rw [hx] at hy
    obtain rfl := Option.some.inj hy
    exact solid_vr (List.all_eq_true.1 ha x (List.mem_of_getElem? hx))⟩ (hg p q)
end
end Go.Proofs.YtidadbppnmnfmaaGreatDoor.pa
