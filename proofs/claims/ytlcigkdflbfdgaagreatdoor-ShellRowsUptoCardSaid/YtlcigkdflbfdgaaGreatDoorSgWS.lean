/-
 The awake test, run once; from the row's list to the tables; calls from a world that holds them.
-/
import Derived.Test.YtlcigkdflbfdgaaGreatDoorSgWO
import Derived.Test.YtlcigkdflbfdgaaGreatDoorSgL
import Derived.Test.YtlcigkdflbfdgaaGreatDoorEng29
import Derived.Test.YtlcigkdflbfdgaaGreatDoorRows
import Derived.KernelRfl
namespace Go.Proofs.YtlcigkdflbfdgaaGreatDoor.sg
set_option linter.unusedVariables false
open Go Go.Eng Go.Sh Go.RowKit Go.Shelf Go.Proofs
noncomputable section
def powL : List Value := (List.range 20).map fun c => .int .u64 ((10 ^ c : Nat) : Int)
def powRow : Row := Row.ofList powL
/-- One cell of which nothing is known. -/
def holeRow : Row := Row.ofList [.tuple #[]]
/-- The laid tables; p, q, r, s, t: the world's objects that hold them. -/
def tabOs (p q r s t : Obj) : List (Nat × AObj) := [(0, .pin firstRow p), (1, .pin accRow q), (3, .pin powRow r), (4, .pin holeRow s), (5, .pin holeRow t)]
theorem runes (p q r s t : Obj) : Runes (tabOs p q r s t) := ⟨⟨p, rfl⟩, ⟨q, rfl⟩⟩
theorem wakesRun (p q r s t : Obj) : endsP (.bool true) [0, 1, 3, 4, 5] (iterX CC tr0 LL noSums 100 (.call 11 []) (layW (tabOs p q r s t) PP.globals.size)) = some [some p, some q, some r, some s, some t] := by kernel_rfl
def firstZ : List Int := (List.range 256).map fun c => ((firstN c : Nat) : Int)
def accZ : List (Int × Int) := [(128, 191), (160, 191), (128, 159), (144, 191), (128, 143)] ++ List.replicate 11 (0, 0)
def powZ : List Int := (List.range 20).map fun c => ((10 ^ c : Nat) : Int)
/-- A cell that holds an error, or nil. -/
def IfaceAt (s : Obj) : Prop := ∃ ev e fz, s = .cells #[ev] e fz ∧ (ev = .nilIface ∨ ∃ te pe, ev = .iface te pe)
/-- What is known of the world's objects themselves. -/
structure Five (r s t : Obj) : Prop where
 pow : ∃ arr e fz, r = .cells arr e fz ∧ arr.toList = powRow.list
 syn : IfaceAt s
 rng : IfaceAt t
theorem iface_at {W : World} {laid : List (String × DataW Unit)} {ps : List MemPlace} {n nm : String} {d : DataW Unit} {g t : Nat} {ms : Array (String × TypeId)} (hl : DataW.LaidVars PP W laid ps) (hm : (n, .iface nm d) ∈ laid) (hg : PP.globalNamed n = some g) (ht : (PP.globals[g]?).map (·.type) = some t) (hu : PP.underlying t = some (.interface ms)) :
  ∃ s, W.heap[g]? = some s ∧ IfaceAt s := by
 obtain ⟨g', t', cs, fuel, p, h1, h2, h3, h4⟩ := laid_mem hl hm
 obtain rfl := Option.some.inj (hg.symm.trans h1)
 obtain rfl := Option.some.inj (ht.symm.trans h2)
 obtain ⟨_, u, v, hcs, _, _⟩ := iface_of_trod hu h4
 obtain ⟨e, fz, hh⟩ := heap_of_var hg h3
 obtain rfl : cs = #[.iface u v] := Array.ext' hcs
 exact ⟨_, hh, _, e, fz, rfl, .inr ⟨u, v, rfl⟩⟩
theorem tabs_at {laid : List (String × DataW Unit)} {W : World} {n3 n4 : String} {d3 d4 : DataW Unit} (h : laidMetH PP laid W) (hpl : (laid.all fun x => x.2.handleName?.isNone) = true)
  (m0 : ("unicode/utf8.first", .agg (firstZ.map fun z => .lit (.int .u8 z))) ∈ laid) (m1 : ("unicode/utf8.acceptRanges", .agg (accZ.map fun z => .agg [.lit (.int .u8 z.1), .lit (.int .u8 z.2)])) ∈ laid)
  (m2 : ("internal/strconv.uint64pow10", .agg (powZ.map fun z => .lit (.int .u64 z))) ∈ laid) (m3 : ("strconv.ErrSyntax", .iface n3 d3) ∈ laid) (m4 : ("strconv.ErrRange", .iface n4 d4) ∈ laid) :
  ∃ p q r s t, TabAt W 0 firstRow p ∧ TabAt W 1 accRow q ∧ TabAt W 3 powRow r ∧ W.heap[4]? = some s ∧ W.heap[5]? = some t ∧ Five r s t := by
 rw [MakeChecks.laidMetH_plain _ _ _ hpl] at h
 obtain ⟨ps, hl, _, _⟩ := h
 obtain ⟨p, hp⟩ := tab_ints (g := 0) (t := 133) (r := firstRow) hl m0 (by kernel_rfl) (by kernel_rfl) Tryz.underlying133 (by kernel_rfl) (by kernel_rfl) (by kernel_rfl) (by
  unfold firstRow firstZ; rw [Row.ofList_list, List.map_map]; rfl)
 obtain ⟨q, hq⟩ := tab_pairs (g := 1) (t := 136) (r := accRow) hl m1 (by kernel_rfl) (by kernel_rfl) Tryz.underlying136 Tryz.underlying135 rfl rfl rfl rfl (by kernel_rfl) (by kernel_rfl) (by kernel_rfl) (by kernel_rfl) (by
  unfold accRow; rw [Row.ofList_list]; rfl)
 obtain ⟨r, hr⟩ := tab_ints (g := 3) (t := 152) (r := powRow) hl m2 (by kernel_rfl) (by kernel_rfl) Tryz.underlying152 (by kernel_rfl) (by kernel_rfl) (by kernel_rfl) (by
  unfold powRow powL powZ; rw [Row.ofList_list, List.map_map]; rfl)
 obtain ⟨s, hs, fs⟩ := iface_at (g := 4) (t := 87) hl m3 (by kernel_rfl) (by kernel_rfl) Tryz.underlying87
 obtain ⟨t, ht, ft⟩ := iface_at (g := 5) (t := 87) hl m4 (by kernel_rfl) (by kernel_rfl) Tryz.underlying87
 obtain ⟨hr1, arr, e, fz, hr2, hr3, hr4⟩ := hr
 exact ⟨p, q, r, s, t, hp, hq, ⟨hr1, arr, e, fz, hr2, hr3, hr4⟩, hs, ht, ⟨arr, e, fz, hr2, hr3⟩, fs, ft⟩
theorem hole_row {W : World} {g : Nat} {s : Obj} (h : W.heap[g]? = some s) (hi : IfaceAt s) (φ : Phi) : W.heap[g]? = some s ∧ ∃ arr e fz, s = .cells arr e fz ∧ holeRow.list.length ≤ arr.toList.length ∧ ∀ (i : Nat) v u, holeRow.list[i]? = some v → notHole v = true → arr.toList[i]? = some u → VR φ v u := by
 obtain ⟨ev, e, fz, rfl, _⟩ := hi
 refine ⟨h, _, e, fz, rfl, ?_, fun i v u h1 h2 _ => ?_⟩
 ·unfold holeRow; rw [Row.ofList_list]; exact Nat.le_refl _
 ·unfold holeRow at h1
  rw [Row.ofList_list] at h1
  match i with
  | 0 => obtain rfl := Option.some.inj h1; cases h2
  | i + 1 => simp at h1
theorem lk_tab {p q r s t : Obj} {b : Nat} {o : AObj} (h : lkObj (tabOs p q r s t) b = some o) : (b = 0 ∧ o = .pin firstRow p) ∨ (b = 1 ∧ o = .pin accRow q) ∨ (b = 3 ∧ o = .pin powRow r) ∨ (b = 4 ∧ o = .pin holeRow s) ∨ (b = 5 ∧ o = .pin holeRow t) := by
 simp only [tabOs, lkObj] at h
 split at h
 ·rename_i e
  exact .inl ⟨e, (Option.some.inj h).symm⟩
 split at h
 ·rename_i e
  exact .inr (.inl ⟨e, (Option.some.inj h).symm⟩)
 split at h
 ·rename_i e
  exact .inr (.inr (.inl ⟨e, (Option.some.inj h).symm⟩))
 split at h
 ·rename_i e
  exact .inr (.inr (.inr (.inl ⟨e, (Option.some.inj h).symm⟩)))
 split at h
 ·rename_i e
  exact .inr (.inr (.inr (.inr ⟨e, (Option.some.inj h).symm⟩)))
 ·cases h
theorem glob_n : PP.globals.size = 8 := by kernel_rfl
theorem iokJ : IOk PP { call := iterX CC tr0 LL noSums 100, loop := LL } := iok_iterX (C := CC) (k := 1000000000000) cok tk0 (noSums_ok PP) 100
theorem wakesRun' (p q r s t : Obj) : ∃ A', iterX CC tr0 LL noSums 100 (.call 11 []) (layW (tabOs p q r s t) PP.globals.size) = .ok (.bool true) A' ∧ ([0, 1, 3, 4, 5].map fun b => pinObj (A'.get b)) = [some p, some q, some r, some s, some t] := endsP_ok (wakesRun p q r s t)
theorem wakesCalls (p q r s t : Obj) (w : World) (h : PinsOk PP (tabOs p q r s t) PP.globals.size id w) : CallsIn Fence.wide 0 PP 11 #[] w fun e w' => e = .returned (.bool true) ∧ Below w.heap.size w w' := by
 obtain ⟨A', hr, hpins⟩ := wakesRun' p q r s t
 simp only [List.map_cons, List.map_nil, List.cons.injEq, and_true] at hpins
 have hp : ∀ b o, lkObj (tabOs p q r s t) b = some o → pinObj (A'.get b) = pinObj (some o) := fun b o hb => by
  rcases lk_tab hb with ⟨rfl, rfl⟩ | ⟨rfl, rfl⟩ | ⟨rfl, rfl⟩ | ⟨rfl, rfl⟩ | ⟨rfl, rfl⟩
  ·exact hpins.1
  ·exact hpins.2.1
  ·exact hpins.2.2.1
  ·exact hpins.2.2.2.1
  ·exact hpins.2.2.2.2
 have I := iokJ
 generalize iterX CC tr0 LL noSums 100 = J at *
 exact closedP (f := 11) (args := []) (v := .bool true) (us := []) (A' := A') I h Rs.nil rfl hr hp
theorem first_solid : ∀ v ∈ firstRow.list, notHole v = true → solid1 v = true := fun v hv _ => by
 rw [show firstRow.list = firstZ.map fun z => .int .u8 z from by unfold firstRow firstZ; rw [Row.ofList_list, List.map_map]; rfl] at hv
 exact plain_ints _ v hv
theorem acc_solid : ∀ v ∈ accRow.list, notHole v = true → solid1 v = true := fun v hv _ => by
 rw [show accRow.list = accZ.flatMap fun z => [.int .u8 z.1, .int .u8 z.2] from by unfold accRow; rw [Row.ofList_list]; rfl] at hv
 obtain ⟨z, _, hz⟩ := List.mem_flatMap.1 hv
 simp only [List.mem_cons, List.not_mem_nil, or_false] at hz
 rcases hz with rfl | rfl <;> rfl
theorem pow_list : powRow.list = powZ.map fun z => .int .u64 z := by unfold powRow powL powZ; rw [Row.ofList_list, List.map_map]; rfl
theorem pow_solid : ∀ v ∈ powRow.list, notHole v = true → solid1 v = true := fun v hv _ => by
 rw [pow_list] at hv
 exact plain_ints _ v hv
theorem hole_solid : ∀ v ∈ holeRow.list, notHole v = true → solid1 v = true := fun v hv h => by
 unfold holeRow at hv
 rw [Row.ofList_list, List.mem_singleton] at hv
 subst hv
 cases h
theorem numWorld {p q r s t : Obj} (hf : Five r s t) {φ : Phi} {A : AW} {w : World} (hg : GlobOk PP φ) (hs : Sim PP φ A w) (hA : ∀ h r' p', tabsOf (tabOs p q r s t) h = some (r', p') → A.get h = some (.pin r' p')) : NumWorld PP laysAtoi_ren w := by
 have h3 := pinned_heap hg hs (show 3 < PP.globals.size by rw [glob_n]; decide) (hA 3 powRow r rfl)
 have h4 := pinned_heap hg hs (show 4 < PP.globals.size by rw [glob_n]; decide) (hA 4 holeRow s rfl)
 have h5 := pinned_heap hg hs (show 5 < PP.globals.size by rw [glob_n]; decide) (hA 5 holeRow t rfl)
 obtain ⟨arr, e, fz, rfl, harr⟩ := hf.pow
 obtain ⟨ev, e4, fz4, rfl, hev⟩ := hf.syn
 obtain ⟨ev', e5, fz5, rfl, hev'⟩ := hf.rng
 refine ⟨?_, ⟨ev, ?_, hev⟩, ⟨ev', ?_, hev'⟩⟩
 ·unfold Lib.TabIs World.var?
  rw [show PP.globalNamed "internal/strconv.uint64pow10" = some 3 by kernel_rfl]
  simp only [Option.bind_some, h3]
  congr 1
  apply Array.ext'
  rw [harr, pow_list]
  rfl
 ·show w.cell? ⟨4, 0, none⟩ = _
  unfold World.cell?
  simp [h4]
 ·show w.cell? ⟨5, 0, none⟩ = _
  unfold World.cell?
  simp [h5]
theorem sumsOk {os : List (Nat × AObj)} (p q r s t : Obj) (hf : Five r s t) (hos : keepOs [0, 1, 3, 4, 5] os = tabOs p q r s t) : SumsUOk PP (sumNum 40 74 148 (keepOs [0, 1, 3, 4, 5] os) (sumTabs 11 (.bool true) (keepOs [0, 1, 3, 4, 5] os))) := by
 rw [hos]
 refine sumNum_ok (ρ := laysAtoi_ren) (sumTabs_ok rfl (fun b o hb => ?_) (fun w h => wakesCalls p q r s t w h)) laysAtoi fun φ A w hg hs hA => numWorld hf hg hs hA
 rw [glob_n]
 rcases lk_tab hb with ⟨rfl, rfl⟩ | ⟨rfl, rfl⟩ | ⟨rfl, rfl⟩ | ⟨rfl, rfl⟩ | ⟨rfl, rfl⟩
 ·exact ⟨by decide, _, _, rfl, first_solid⟩
 ·exact ⟨by decide, _, _, rfl, acc_solid⟩
 ·exact ⟨by decide, _, _, rfl, pow_solid⟩
 ·exact ⟨by decide, _, _, rfl, hole_solid⟩
 ·exact ⟨by decide, _, _, rfl, hole_solid⟩
theorem iokU {os : List (Nat × AObj)} (p q r s t : Obj) (hf : Five r s t) (hos : keepOs [0, 1, 3, 4, 5] os = tabOs p q r s t) (n : Nat) : IOk PP { call := XX os n, loop := LL } := iok_iterU (C := CC) (k := 1000000000000) cok tk0 (sumsOk p q r s t hf hos) n
/-- A call that is walked, from a world that holds the tables, and more. -/
theorem callsAt {d f nx : Nat} {args us : List Value} {os : List (Nat × AObj)} {cm : Nat → Nat} {p q r s t : Obj} {w : World} (hf : Five r s t) (hos : keepOs [0, 1, 3, 4, 5] os = tabOs p q r s t) (hw : PinsOk PP os nx cm w) (hR : Rs (phi1 os nx cm) args us) (hg : Gives (tabsOf os) (XX os) d f args (.bool true)) :
  CallsIn Fence.wide 0 PP f us.toArray w fun e w' => e = .returned (.bool true) ∧ Below w.heap.size w w' := by
 have hp : Hp (tabsOf os) (layW os nx) [] := Hp.nil _ fun g r' p' hg' => by
  unfold tabsOf at hg'
  split at hg'
  ·rename_i x y hx
   obtain ⟨rfl, rfl⟩ := Prod.mk.injEq .. ▸ Option.some.inj hg'
   exact ⟨by rw [layW_get, hx], (hw.key _ _ hx).1⟩
  ·cases hg'
 obtain ⟨x, A', h1, rfl, h3⟩ := hg _ [] (fun v A' => v = .bool true ∧ Hp (tabsOf os) A' []) hp (fun A' h' => ⟨rfl, h'⟩) d (Nat.le_refl _)
 refine closedP (f := f) (args := args) (v := .bool true) (A' := A') (iokU p q r s t hf hos d) hw hR rfl h1 fun b o hb => ?_
 obtain ⟨_, r', p', rfl, _⟩ := hw.key b o hb
 rw [(h3.tab b r' p' (tabsOf_some hb)).1]
/-- A world that holds the tables. -/
def Tabled (W : World) : Prop := ∃ p q r s t, TabAt W 0 firstRow p ∧ TabAt W 1 accRow q ∧ TabAt W 3 powRow r ∧ W.heap[4]? = some s ∧ W.heap[5]? = some t ∧ Five r s t
end
end Go.Proofs.YtlcigkdflbfdgaaGreatDoor.sg
