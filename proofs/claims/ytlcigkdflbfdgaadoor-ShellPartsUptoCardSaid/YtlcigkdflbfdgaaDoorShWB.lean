/-
  From the row's list to the tables; calls from a world that holds them.
-/
import Derived.Test.YtlcigkdflbfdgaaDoorShWA
import Derived.Test.YtlcigkdflbfdgaaDoorShW8
import Derived.Test.YtlcigkdflbfdgaaDoorEng31
import Derived.Test.YtlcigkdflbfdgaaDoorRows
namespace Go.Proofs.YtlcigkdflbfdgaaDoor.sh
open Go Go.Eng Go.Sh Go.RowKit
noncomputable section
def firstZ : List Int := (List.range 256).map fun c => ((firstN c : Nat) : Int)
def accZ : List (Int × Int) := [(128, 191), (160, 191), (128, 159), (144, 191), (128, 143)] ++ List.replicate 11 (0, 0)
def powZ : List Int := (List.range 20).map fun c => ((10 ^ c : Nat) : Int)
theorem tabs_of {laid : List (String × DataW Unit)} {W : World} (h : laidMetH PP laid W) (hpl : (laid.all fun x => x.2.handleName?.isNone) = true)
    (m0 : ("unicode/utf8.first", .agg (firstZ.map fun z => .lit (.int .u8 z))) ∈ laid) (m1 : ("unicode/utf8.acceptRanges", .agg (accZ.map fun z => .agg [.lit (.int .u8 z.1), .lit (.int .u8 z.2)])) ∈ laid)
    (m2 : ("internal/strconv.uint64pow10", .agg (powZ.map fun z => .lit (.int .u64 z))) ∈ laid) : ∃ p q r, PinsOk PP (tabOs p q r) PP.globals.size id W := by
  rw [MakeChecks.laidMetH_plain _ _ _ hpl] at h
  obtain ⟨ps, hl, _, _⟩ := h
  obtain ⟨p, hp⟩ := tab_ints (g := 0) (t := 104) (r := firstRow) hl m0 (by kernel_rfl) (by kernel_rfl) Tryd.underlying104 (by kernel_rfl) (by kernel_rfl) (by kernel_rfl) (by
    unfold firstRow firstZ; rw [Row.ofList_list, List.map_map]; rfl)
  obtain ⟨q, hq⟩ := tab_pairs (g := 1) (t := 107) (r := accRow) hl m1 (by kernel_rfl) (by kernel_rfl) Tryd.underlying107 Tryd.underlying106 rfl rfl rfl rfl (by kernel_rfl) (by kernel_rfl) (by kernel_rfl) (by kernel_rfl) (by
    unfold accRow; rw [Row.ofList_list]; rfl)
  obtain ⟨r, hr⟩ := tab_ints (g := 3) (t := 131) (r := powRow) hl m2 (by kernel_rfl) (by kernel_rfl) Tryd.underlying131 (by kernel_rfl) (by kernel_rfl) (by kernel_rfl) (by
    unfold powRow powL powZ; rw [Row.ofList_list, List.map_map]; rfl)
  refine ⟨p, q, r, fun b o ho => ?_, fun b b' _ _ _ _ h => h, Nat.le_refl _, fun _ _ => rfl⟩
  simp only [tabOs, lkObj] at ho
  have hs : PP.globals.size = 8 := by kernel_rfl
  rw [hs]
  split at ho
  · rename_i e; subst e
    obtain rfl := Option.some.inj ho
    exact ⟨by decide, _, p, rfl, hp.1, hp.2⟩
  · split at ho
    · rename_i e; subst e
      obtain rfl := Option.some.inj ho
      exact ⟨by decide, _, q, rfl, hq.1, hq.2⟩
    · split at ho
      · rename_i e; subst e
        obtain rfl := Option.some.inj ho
        exact ⟨by decide, _, r, rfl, hr.1, hr.2⟩
      · cases ho
theorem lk_tab {p q r : Obj} {b : Nat} {o : AObj} (h : lkObj (tabOs p q r) b = some o) : (b = 0 ∧ o = .pin firstRow p) ∨ (b = 1 ∧ o = .pin accRow q) ∨ (b = 3 ∧ o = .pin powRow r) := by
  simp only [tabOs, lkObj] at h
  split at h
  · rename_i e
    exact .inl ⟨e, (Option.some.inj h).symm⟩
  · split at h
    · rename_i e
      exact .inr (.inl ⟨e, (Option.some.inj h).symm⟩)
    · split at h
      · rename_i e
        exact .inr (.inr ⟨e, (Option.some.inj h).symm⟩)
      · cases h
theorem iokJ : IOk PP { call := iterJ CC tr0 LL noSums [] 100, loop := LL } := iok_iterJ (C := CC) (k := 1000000000000) cok tk0 (noSums_ok PP) (js := []) trivial 100
theorem wakesRun' (p q r : Obj) : ∃ A', iterJ CC tr0 LL noSums [] 100 (.call 11 []) (layW (tabOs p q r) PP.globals.size) = .ok (.bool true) A' ∧ ([0, 1, 3].map fun b => pinObj (A'.get b)) = [some p, some q, some r] := endsP_ok (wakesRun p q r)
theorem wakesCalls (p q r : Obj) (w : World) (h : PinsOk PP (tabOs p q r) PP.globals.size id w) : CallsIn Fence.wide 0 PP 11 #[] w fun e w' => e = .returned (.bool true) ∧ Below w.heap.size w w' := by
  obtain ⟨A', hr, hpins⟩ := wakesRun' p q r
  simp only [List.map_cons, List.map_nil, List.cons.injEq, and_true] at hpins
  have hp : ∀ b o, lkObj (tabOs p q r) b = some o → pinObj (A'.get b) = pinObj (some o) := fun b o hb => by
    rcases lk_tab hb with ⟨rfl, rfl⟩ | ⟨rfl, rfl⟩ | ⟨rfl, rfl⟩
    · exact hpins.1
    · exact hpins.2.1
    · exact hpins.2.2
  have I := iokJ
  generalize iterJ CC tr0 LL noSums [] 100 = J at *
  exact closedP (f := 11) (args := []) (v := .bool true) (us := []) (A' := A') I h Rs.nil rfl hr hp
theorem sumsOk (p q r : Obj) : SumsUOk PP (sumTabs 11 (.bool true) (tabOs p q r)) := sumTabs_ok rfl (fun b o hb => by
    have hs : PP.globals.size = 8 := by kernel_rfl
    rw [hs]
    rcases lk_tab hb with ⟨rfl, rfl⟩ | ⟨rfl, rfl⟩ | ⟨rfl, rfl⟩ <;> exact ⟨by decide, _, _, rfl⟩) (fun w h => wakesCalls p q r w h)
theorem iokU (p q r : Obj) (n : Nat) : IOk PP { call := XX (tabOs p q r) n, loop := LL } := iok_iterU (C := CC) (k := 1000000000000) cok tk0 (sumsOk p q r) n
/-- A call that is walked, from a world that holds the tables. -/
theorem callsOf {d f : Nat} {args : List Value} (ha : args.all solid = true) (hg : ∀ p q r, Gives (tabsOf (tabOs p q r)) (XX (tabOs p q r)) d f args (.bool true)) (w : World) (h : ∃ p q r, PinsOk PP (tabOs p q r) PP.globals.size id w) :
    CallsIn Fence.wide 0 PP f args.toArray w fun e w' => e = .returned (.bool true) ∧ Below w.heap.size w w' := by
  obtain ⟨p, q, r, hw⟩ := h
  have hp : Hp (tabsOf (tabOs p q r)) (layW (tabOs p q r) PP.globals.size) [] := Hp.nil _ fun g r' p' hg' => by
    unfold tabsOf at hg'
    split at hg'
    · rename_i x y hx
      obtain ⟨rfl, rfl⟩ := Prod.mk.injEq .. ▸ Option.some.inj hg'
      exact ⟨by rw [layW_get, hx], (hw.key _ _ hx).1⟩
    · cases hg'
  obtain ⟨x, A', h1, rfl, h3⟩ := hg p q r _ [] (fun v A' => v = .bool true ∧ Hp (tabsOf (tabOs p q r)) A' []) hp (fun A' h' => ⟨rfl, h'⟩) d (Nat.le_refl _)
  have hR : Rs (phi1 (tabOs p q r) PP.globals.size id) args args := ⟨rfl, fun i x y hx hy => by
    rw [hx] at hy
    obtain rfl := Option.some.inj hy
    exact solid_vr (List.all_eq_true.1 ha x (List.mem_of_getElem? hx))⟩
  refine closedP (f := f) (args := args) (v := .bool true) (A' := A') (iokU p q r d) hw hR rfl h1 fun b o hb => ?_
  obtain ⟨_, r', p', rfl, _⟩ := hw.key b o hb
  rw [(h3.tab b r' p' (tabsOf_some hb)).1]
end
end Go.Proofs.YtlcigkdflbfdgaaDoor.sh
