/-
  PathTexts holds: whatever two texts and a slice of texts of bulk at most 1048576 come in, the call returns true. (The condition is the second form's: what comes in is of bulk at most 1048576; the listed tables are tied to the program's text by the given card.)
-/
import Derived.Test.YtidadbppnmnfmaaGreatDoorCards
import Derived.Test.YtidadbppnmnfmaaGreatDoorTie
import Derived.Test.YtidadbppnmnfmaaGreatDoorPaPD
import Derived.Test.YtidadbppnmnfmaaGreatDoorEng26
import Derived.WalkKit
import Derived.ProofKit
import Derived.OpenShut
import Derived.JoinedCond
import Derived.Deep.DeepHandedRow
import Derived.LaidMore
import Derived.Lay
import Derived.SevenTiedAt
import Derived.Stop.Joined
import Derived.SliceStrings
import Derived.WideKeyArgs
namespace Go.Proofs.YtidadbppnmnfmaaGreatDoor.pa
open Go Go.Eng Go.ChangeShapes Go.WideShapes Go.ChangeAt Go.RowKit
open Go.ChangeMaps (open_string shut_string)
set_option linter.unusedVariables false

theorem own : ownKnob Tryz.prog.godebug = none := by kernel_rfl
theorem laidOut : laidOutB Tryz.prog = true := by kernel_rfl
theorem bulk_strs {H : Type} : ∀ X : List ByteArray, Rows.uptoBulkAll (Go.ChangeShapes.strs (H := H) X) = (Go.Sh.slashed (X.map (·.data.toList))).length
  | [] => rfl
  | x :: r => by
    show Rows.uptoBulk (.lit (.string x.data.toList)) + Rows.uptoBulkAll (Go.ChangeShapes.strs (H := H) r) = _
    rw [bulk_strs r]
    simp only [Rows.uptoBulk, Go.Sh.slashed, List.map_cons, List.length_cons, List.length_append]
    omega
theorem count_slashed : ∀ L : List (List UInt8), L.length ≤ (Go.Sh.slashed L).length
  | [] => Nat.le_refl _
  | x :: r => by
    have := count_slashed r
    simp only [Go.Sh.slashed, List.length_cons, List.length_append]
    omega
theorem bulk2 {H : Type} {a b : ByteArray} {X Y : List ByteArray} (hk : Rows.uptoSmall H [.lit (.string a.data.toList), .lit (.string b.data.toList), .slice (Go.ChangeShapes.strs X) (Go.ChangeShapes.strs Y)] = true) : (Go.Sh.slashed (X.map (·.data.toList))).length ≤ 1048576 ∧ a.data.toList.length ≤ 1048576 ∧ b.data.toList.length ≤ 1048576 := by
  have h : Rows.uptoBulkAll [DataW.lit (H := H) (.string a.data.toList), .lit (.string b.data.toList), .slice (Go.ChangeShapes.strs X) (Go.ChangeShapes.strs Y)] ≤ 1048576 := of_decide_eq_true hk
  simp only [Rows.uptoBulkAll, Rows.uptoBulk, bulk_strs] at h
  omega
theorem bulk3 {H : Type} {a b : ByteArray} (hk : Rows.uptoSmall H [.lit (.string a.data.toList), .lit (.string b.data.toList), .nil] = true) : a.data.toList.length ≤ 1048576 ∧ b.data.toList.length ≤ 1048576 := by
  have h : Rows.uptoBulkAll [DataW.lit (H := H) (.string a.data.toList), .lit (.string b.data.toList), .nil] ≤ 1048576 := of_decide_eq_true hk
  simp only [Rows.uptoBulkAll, Rows.uptoBulk] at h
  omega
theorem tables {W : World} (h : laidMetH Tryz.prog Rows.pathTextsUptoRow.laid W) : ∃ p q, TabAt W 0 firstRow p ∧ TabAt W 1 accRow q :=
  tabs_at h (by kernel_rfl) (List.mem_of_getElem? (i := 1) (by kernel_rfl)) (List.mem_of_getElem? (i := 0) (by kernel_rfl))
set_option maxRecDepth 100000 in
theorem contract (H : Type) (enc : TypeId × Value → H) (W : World) (base : Nat) (args : Array Value) (ds gs : List (DataW H)) (before : List MemPlace)
    (hval : ∀ (j : Nat) t v, Tryz.f3.params[j]? = some t → args[j]? = some v → Value.okWide Tryz.prog W .any base t v)
    (hW : DataW.Whole enc Tryz.prog Tryz.f3.params.toList Rows.pathTextsSpec.vars false W args.toList ds gs before) (hL : laidMetH Tryz.prog Rows.pathTextsUptoRow.laid W) (hk : Rows.uptoSmall H (ds ++ gs) = true) :
    Calls Tryz.prog 3 args W fun e W' => ∃ v, e = .returned v ∧ Rows.pathTextsSpec.post enc Tryz.prog Tryz.f3 false true false false W args v W' := by
  have hW' := hW
  obtain ⟨p, q, hA0, hV, rfl, hfz, hnd⟩ := hW
  have hA : DataW.TrodAll enc Tryz.prog W 0 (fun _ => true) true Tryz.f3.params.toList args.toList ds p := hA0
  rw [Tryz.params3] at hA hval
  obtain ⟨v0, vs0, d0, ds0, p0, q0, hargs, rfl, rfl, h0, r0⟩ := trodAll_cons hA
  obtain ⟨v1, vs1, d1, ds1, p1, q1, hargs1, rfl, rfl, h1, r1⟩ := trodAll_cons r0
  obtain ⟨v2, vs2, d2, ds2, p2, q2, hargs2, rfl, rfl, h2, r2⟩ := trodAll_cons r1
  obtain ⟨rfl, rfl, rfl⟩ := trodAll_nil r2
  obtain rfl : args = #[v0, v1, v2] := by cases args; simp_all
  obtain ⟨rfl, rfl⟩ := trodVars_none hV
  obtain ⟨s, rfl, rfl, rfl, hs⟩ := open_string Tryz.underlying9 (hval 0 9 v0 rfl rfl) h0
  obtain ⟨t, rfl, rfl, rfl, ht⟩ := open_string Tryz.underlying9 (hval 1 9 v1 rfl rfl) h1
  obtain ⟨a0, len, cap, rfl⟩ := okWide_slice Tryz.underlying22 (hval 2 22 v2 rfl rfl)
  clear hA0
  simp only [List.append_nil, List.nil_append] at hW' hk
  have hlt := hW'.lt
  obtain ⟨f, g, hf, hg⟩ := tables hL
  have back : ∀ W', Below W.heap.size W W' → Rows.pathTextsSpec.post enc Tryz.prog Tryz.f3 false true false false W #[.string s, .string t, .slice a0 len cap] (.bool true) W' := fun W' hb =>
    row_below (pa := [] ++ ([] ++ (p2 ++ []))) (pv := []) hW' (fun _ _ _ => trodAll_cons_mk (shut_bool Tryz.underlying4 _) trodAll_mk0)
      (fun sp hsp => trodAll_cons_mk (shut_string Tryz.underlying9 hs) (trodAll_cons_mk (shut_string Tryz.underlying9 ht) (trodAll_cons_mk (WideElems.Trod_stays laidOut (by kernel_rfl) (of_decide_eq_true (by kernel_rfl)) h2 (fun x hx => hb.same (hlt x hx)) (fun x hx => hsp x hx)) trodAll_mk0))) (fun _ _ => rfl) (by simp)
      hb (ok_one (by kernel_rfl) rfl (okWide_bool_mk Tryz.underlying4 _))
  have hpre : ([.string (BA s.data.toList), .string (BA t.data.toList)] : List Value).all solid = true := rfl
  obtain ⟨fuel, h2⟩ := h2
  rcases open_strings Tryz.underlying22 Tryz.underlying9 (by kernel_rfl) h2 with ⟨hcs, hx⟩ | ⟨a, len', cap', ss, hcs, _, hl, hm, hz, hx, hcell, hsz⟩
  · simp only [Value.cells, List.cons.injEq, Value.slice.injEq, and_true] at hcs
    obtain ⟨rfl, rfl, rfl⟩ := hcs
    simp only [Prod.mk.injEq] at hx
    obtain ⟨rfl, _⟩ := hx
    obtain ⟨b1, b2⟩ := bulk3 hk
    have walk := nil_calls (d := 7) (f := 3) hf hg [.string (BA s.data.toList), .string (BA t.data.toList)] hpre fun os b c hr h3 h4 => textsG s.data.toList t.data.toList (L := []) (by omega) (by omega) h3 h4 (by decide) (by decide) hr
    refine (callsIn_wide.1 walk).mono fun e W' ⟨he, hb⟩ => ?_
    exact ⟨_, he, back W' hb⟩
  · simp only [Value.cells, List.cons.injEq, Value.slice.injEq, and_true] at hcs
    obtain ⟨rfl, rfl, rfl⟩ := hcs
    simp only [Prod.mk.injEq] at hx
    obtain ⟨rfl, _⟩ := hx
    obtain ⟨hbk, b1, b2⟩ := bulk2 hk
    simp only [if_true] at hz
    have hlen : ((ss.take len).map (·.data.toList)).length = len := by rw [List.length_map, List.length_take]; omega
    have hcnt := count_slashed ((ss.take len).map (·.data.toList))
    have walk := slice_calls (d := 7) (f := 3) hf hg [.string (BA s.data.toList), .string (BA t.data.toList)] hpre a cap ((ss.take len).map (·.data.toList)) (by omega) (fun i hi => by
      have hi' : i < ss.length := by rw [hlen] at hi; omega
      rw [hcell i hi', List.getElem_map, List.getElem_take, ← BA_of]
      simp [List.getD, List.getElem?_eq_getElem hi']) (fun h0 => ⟨_, by
      have := hcell 0 (by omega)
      rw [show a.add 0 = a from by unfold Addr.add; rw [if_pos rfl]] at this
      exact this⟩) fun os b c hr h3 h4 => textsG s.data.toList t.data.toList (by omega) (by omega) h3 h4 (by omega) (by omega) hr
    rw [hlen] at walk
    exact (callsIn_wide.1 walk).mono fun e W' ⟨he, hb⟩ => ⟨_, he, back W' hb⟩
noncomputable abbrev w0 (os : Os) : World := World.laidAll Tryz.prog os Rows.pathTextsUptoRow.laid
theorem laid_met (os : Os) : laidMet Tryz.prog Rows.pathTextsUptoRow.laid (((w0 os).forCall (fun _ _ => 0) ⟨#[], #[.string .empty, .string .empty, .slice none 0 0], []⟩).memory) := laidMet_laidAll _ (by kernel_rfl) (by kernel_rfl)
theorem reads (os : Os) {H : Type} (enc : TypeId × Value → H) : ∃ places, DataW.whole enc Tryz.prog (((w0 os).forCall (fun _ _ => 0) ⟨#[], #[.string .empty, .string .empty, .slice none 0 0], []⟩).memory) Tryz.f3.params.toList Rows.pathTextsSpec.vars false #[Value.string .empty, .string .empty, .slice none 0 0].toList 8 = some ([.lit (.string []), .lit (.string []), .nil], [], places) :=
  ⟨[], by kernel_rfl⟩
set_option maxRecDepth 100000 in
theorem lifted (os : Os) (started : os.Started) (H : Type) (enc : TypeId × Value → H) (F : Stop.Interp) :
    ReturnsInHanded {} Tryz.checked os 3 .any ((Rows.OpenSpec.upto Rows.pathTextsSpec).preRow enc Tryz.prog Tryz.f3 Rows.pathTextsUptoRow.domain false Rows.pathTextsUptoRow.laid) (((Rows.OpenSpec.upto Rows.pathTextsSpec).at F).post enc Tryz.prog Tryz.f3 false true false false) := by
  obtain ⟨places, hx⟩ := reads os enc
  refine returnsInHanded_of_row (C := Tryz.checked) (s := Rows.OpenSpec.upto Rows.pathTextsSpec) own started (by kernel_rfl) Tryz.func3
    (witness_shaped_row (enc := enc) (C := Tryz.checked) false (w0 os) #[.string .empty, .string .empty, .slice none 0 0] (World.laidAll_os _ _ _) (World.shaped_of_ZipB (by kernel_rfl) (by kernel_rfl)) (by kernel_rfl)
      (OpenSpec.preRow_of_cond 8 hx (by kernel_rfl) (fun k hk => by cases hk; kernel_rfl) (by kernel_rfl) (by rw [MakeChecks.laidMetH_plain _ _ _ (by kernel_rfl)]; exact laid_met os))) ?_
  intro W base args ds gs before hval hW _ hcond _ hL _ _
  exact contract H enc W base args ds gs before hval hW hL (hcond _ rfl)
theorem over : Rows.PathTextsUptoSaid :=
  OpenClaim.holds_of_cond 3 Tryz.f3 rfl rfl rfl rfl rfl rfl rfl ⟨rfl, rfl, rfl, rfl, rfl⟩ rfl rfl rfl rfl rfl (by kernel_rfl) Tryz.func3 (by kernel_rfl)
    (of_decide_eq_true (by kernel_rfl)) (by unfold Func.isWrapper; first | (rw [if_pos (by decide +kernel)]; kernel_rfl) | (rw [if_neg (by decide +kernel)]; exact ⟨rfl, rfl⟩))
    (fun os started H enc _ F => by rw [OpenClaim.pre_eq_preRow]; exact lifted os started H enc F)
theorem plain (f : FuncId) (fn : Func) (hf : Tryz.pinned.checked.prog.funcNamed "hayrick/hayricklaw22.PathTexts" = some f) (hfn : Tryz.pinned.checked.prog.funcs[f]? = some fn) :
    true = Tryz.pinned.checked.prog.looks [] ∧ ∀ (j : Nat) t, fn.params[j]? = some t → Tryz.pinned.checked.prog.wantsStandIn t = false := by
  obtain rfl : f = 3 := Option.some.inj ((show Tryz.prog.funcNamed "hayrick/hayricklaw22.PathTexts" = some 3 by kernel_rfl).symm.trans hf) |>.symm
  obtain rfl : fn = Tryz.f3 := (Option.some.inj (Tryz.func3.symm.trans hfn)).symm
  refine ⟨by kernel_rfl, fun j t ht => ?_⟩
  rw [Tryz.params3] at ht
  have h9 : t = 9 ∨ t = 22 := by
    have := Array.mem_of_getElem? ht
    simp at this
    omega
  rcases h9 with rfl | rfl
  · exact (show Tryz.prog.wantsStandIn 9 = false by kernel_rfl)
  · exact (show Tryz.prog.wantsStandIn 22 = false by kernel_rfl)
theorem proved : Rows.PathTextsUptoCardSaid :=
  Claim7.holds_tied_plain_at .later [] _ _ _ _ over (fun _ h => by cases h) (by kernel_rfl) (fun _ h => by cases h) pathTextsUpto_row_tie rfl ⟨rfl, rfl⟩ (by kernel_rfl) rfl plain (by kernel_rfl)
end Go.Proofs.YtidadbppnmnfmaaGreatDoor.pa
