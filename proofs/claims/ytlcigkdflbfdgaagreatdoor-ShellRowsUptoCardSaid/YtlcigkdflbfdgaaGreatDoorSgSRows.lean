/-
 ShellRows holds: whatever rows and text of bulk at most 1048576 come in, the call returns true. (The condition is the second form's: what comes in is of bulk at most 1048576; the listed tables are tied to the program's text by the given card.)
-/
import Derived.Test.YtlcigkdflbfdgaaGreatDoorCards
import Derived.Test.YtlcigkdflbfdgaaGreatDoorTie
import Derived.Test.YtlcigkdflbfdgaaGreatDoorSgWZ
import Derived.Test.YtlcigkdflbfdgaaGreatDoorSgRD
import Derived.Test.YtlcigkdflbfdgaaGreatDoorEng26
import Derived.WalkKit
import Derived.ProofKit
import Derived.OpenShut
import Derived.JoinedCond
import Derived.Deep.DeepHandedRow
import Derived.LaidMore
import Derived.Lay
import Derived.SevenTiedAt
import Derived.Stop.Joined
import Derived.SliceStrings
import Derived.WideKeyArgs
namespace Go.Proofs.YtlcigkdflbfdgaaGreatDoor.sg
open Go Go.Eng Go.ChangeShapes Go.WideShapes Go.ChangeAt Go.RowKit
open Go.ChangeMaps (open_string shut_string)
set_option linter.unusedVariables false

theorem own : ownKnob Tryz.prog.godebug = none := by kernel_rfl
theorem laidOut : laidOutB Tryz.prog = true := by kernel_rfl
theorem tables {W : World} (h : laidMetH Tryz.prog Rows.shellRowsUptoRow.laid W) : Tabled W :=
 tabs_at (n3 := "*errors.errorString") (n4 := "*errors.errorString") (d3 := .ptr (.agg [.lit (.string [105, 110, 118, 97, 108, 105, 100, 32, 115, 121, 110, 116, 97, 120])])) (d4 := .ptr (.agg [.lit (.string [118, 97, 108, 117, 101, 32, 111, 117, 116, 32, 111, 102, 32, 114, 97, 110, 103, 101])])) h (by kernel_rfl) (List.mem_of_getElem? (i := 6) (by kernel_rfl)) (List.mem_of_getElem? (i := 3) (by kernel_rfl)) (List.mem_of_getElem? (i := 2) (by kernel_rfl)) (List.mem_of_getElem? (i := 5) (by kernel_rfl)) (List.mem_of_getElem? (i := 4) (by kernel_rfl))
theorem bulk2 {H : Type} {d0 : DataW H} {c : ByteArray} (hk : Rows.uptoSmall H [d0, .lit (.string c.data.toList)] = true) : Rows.uptoBulk d0 ≤ 1048576 ∧ c.data.toList.length ≤ 1048576 := by
 have h : Rows.uptoBulkAll [d0, .lit (.string c.data.toList)] ≤ 1048576 := of_decide_eq_true hk
 simp only [Rows.uptoBulkAll, Rows.uptoBulk] at h
 omega
theorem calls2 {H : Type} {enc : TypeId × Value → H} {W : World} (hT : Tabled W) {n0 : Nat} {u0 : Value} {x0 : DataW H × List MemPlace} (h0 : DataW.trod enc PP W 0 (fun _ => true) true n0 37 [u0] = some x0)
  (s : ByteArray) (b0 : Rows.uptoBulk x0.1 ≤ 1048576) (hs : s.data.toList.length ≤ 1048576) :
  Calls Tryz.prog 4 #[u0, .string s] W fun e w' => e = .returned (.bool true) ∧ Below W.heap.size W w' := by
 obtain ⟨p, q, r, o, t, hp, hq, hr, ho, ht, hf⟩ := hT
 have hS := showsW hp hq hr ho ht hf
 obtain ⟨⟨a0, m0, c0⟩, xs, L0, e0, l0, r0, k0, nm0, w0⟩ := rowlist_arg hS h0
 simp only at e0 l0 r0
 subst l0
 refine callsIn_wide.1 (callsW (us := [u0, .string s]) (d := 13) hp hq hr ho ht hf (fun u hu => ?_) ?_)
 ·simp only [List.mem_cons, List.not_mem_nil, or_false] at hu
  rcases hu with rfl | rfl
  ·rw [e0]; rfl
  ·rfl
 ·rw [show [u0, .string s].map (absV 0 W) = [.slice a0 xs.length c0, .string (BA s.data.toList)] by rw [← BA_of s, ← e0]; rfl]
  exact shRowsG s.data.toList r0 k0 ⟨nm0, by omega⟩ (by omega) (runesW ..)
set_option maxRecDepth 100000 in
theorem contract (H : Type) (enc : TypeId × Value → H) (W : World) (base : Nat) (args : Array Value) (ds gs : List (DataW H)) (before : List MemPlace)
  (hval : ∀ (j : Nat) t v, Tryz.f4.params[j]? = some t → args[j]? = some v → Value.okWide Tryz.prog W .any base t v)
  (hW : DataW.Whole enc Tryz.prog Tryz.f4.params.toList Rows.shellRowsSpec.vars false W args.toList ds gs before) (hL : laidMetH Tryz.prog Rows.shellRowsUptoRow.laid W) (hk : Rows.uptoSmall H (ds ++ gs) = true) :
  Calls Tryz.prog 4 args W fun e W' => ∃ v, e = .returned v ∧ Rows.shellRowsSpec.post enc Tryz.prog Tryz.f4 false true false false W args v W' := by
 have hW' := hW
 obtain ⟨p, q, hA0, hV, rfl, hfz, hnd⟩ := hW
 have hA : DataW.TrodAll enc Tryz.prog W 0 (fun _ => true) true Tryz.f4.params.toList args.toList ds p := hA0
 rw [Tryz.params4] at hA hval
 obtain ⟨v0, vs0, d0, ds0, p0, q0, hargs, rfl, rfl, h0, r0⟩ := trodAll_cons hA
 obtain ⟨v2, vs2, d2, ds2, p2, q2, hargs2, rfl, rfl, h2, r2⟩ := trodAll_cons r0
 obtain ⟨rfl, rfl, rfl⟩ := trodAll_nil r2
 obtain rfl : args = #[v0, v2] := by cases args; simp_all
 obtain ⟨rfl, rfl⟩ := trodVars_none hV
 obtain ⟨a0, n0, c0, rfl⟩ := okWide_slice Tryz.underlying37 (hval 0 37 v0 rfl rfl)
 obtain ⟨s, rfl, rfl, rfl, hs⟩ := open_string Tryz.underlying9 (hval 1 9 v2 rfl rfl) h2
 clear hA0
 simp only [List.append_nil] at hW' hk
 have hlt := hW'.lt
 have back : ∀ W', Below W.heap.size W W' → Rows.shellRowsSpec.post enc Tryz.prog Tryz.f4 false true false false W #[.slice a0 n0 c0, .string s] (.bool true) W' := fun W' hb =>
  row_below (pa := p0 ++ ([] ++ [])) (pv := []) hW' (fun _ _ _ => trodAll_cons_mk (shut_bool Tryz.underlying4 _) trodAll_mk0)
   (fun sp hsp => trodAll_cons_mk (WideElems.Trod_stays laidOut (by kernel_rfl) (of_decide_eq_true (by kernel_rfl)) h0 (fun x hx => hb.same (hlt x (by simp [hx]))) (fun x hx => hsp x (by simp [hx])))
    (trodAll_cons_mk (shut_string Tryz.underlying9 hs) trodAll_mk0)) (fun _ _ => rfl) (by simp)
   hb (ok_one (by kernel_rfl) rfl (okWide_bool_mk Tryz.underlying4 _))
 obtain ⟨fuel0, h0⟩ := h0
 obtain ⟨b0, b2⟩ := bulk2 hk
 exact (calls2 (tables hL) h0 s b0 b2).mono fun e W' ⟨he, hb⟩ => ⟨_, he, back W' hb⟩
noncomputable abbrev w0 (os : Os) : World := World.laidAll Tryz.prog os Rows.shellRowsUptoRow.laid
theorem laid_met (os : Os) : laidMet Tryz.prog Rows.shellRowsUptoRow.laid (((w0 os).forCall (fun _ _ => 0) ⟨#[], #[.slice none 0 0, .string .empty], []⟩).memory) := laidMet_laidAll _ (by kernel_rfl) (by kernel_rfl)
theorem reads (os : Os) {H : Type} (enc : TypeId × Value → H) : ∃ places, DataW.whole enc Tryz.prog (((w0 os).forCall (fun _ _ => 0) ⟨#[], #[.slice none 0 0, .string .empty], []⟩).memory) Tryz.f4.params.toList Rows.shellRowsSpec.vars false #[Value.slice none 0 0, .string .empty].toList 8 = some ([.nil, .lit (.string [])], [], places) :=
 ⟨[], by kernel_rfl⟩
set_option maxRecDepth 100000 in
theorem lifted (os : Os) (started : os.Started) (H : Type) (enc : TypeId × Value → H) (F : Stop.Interp) :
  ReturnsInHanded {} Tryz.checked os 4 .any ((Rows.OpenSpec.upto Rows.shellRowsSpec).preRow enc Tryz.prog Tryz.f4 Rows.shellRowsUptoRow.domain false Rows.shellRowsUptoRow.laid) (((Rows.OpenSpec.upto Rows.shellRowsSpec).at F).post enc Tryz.prog Tryz.f4 false true false false) := by
 obtain ⟨places, hx⟩ := reads os enc
 refine returnsInHanded_of_row (C := Tryz.checked) (s := Rows.OpenSpec.upto Rows.shellRowsSpec) own started (by kernel_rfl) Tryz.func4
  (witness_shaped_row (enc := enc) (C := Tryz.checked) false (w0 os) #[.slice none 0 0, .string .empty] (World.laidAll_os _ _ _) (World.shaped_of_ZipB (by kernel_rfl) (by kernel_rfl)) (by kernel_rfl)
   (OpenSpec.preRow_of_cond 8 hx (by kernel_rfl) (fun k hk => by cases hk; kernel_rfl) (by kernel_rfl) (by rw [MakeChecks.laidMetH_plain _ _ _ (by kernel_rfl)]; exact laid_met os))) ?_
 intro W base args ds gs before hval hW _ hcond _ hL _ _
 exact contract H enc W base args ds gs before hval hW hL (hcond _ rfl)
theorem over : Rows.ShellRowsUptoSaid :=
 OpenClaim.holds_of_cond 4 Tryz.f4 rfl rfl rfl rfl rfl rfl rfl ⟨rfl, rfl, rfl, rfl, rfl⟩ rfl rfl rfl rfl rfl (by kernel_rfl) Tryz.func4 (by kernel_rfl)
  (of_decide_eq_true (by kernel_rfl)) (by unfold Func.isWrapper; first | (rw [if_pos (by decide +kernel)]; kernel_rfl) | (rw [if_neg (by decide +kernel)]; exact ⟨rfl, rfl⟩))
  (fun os started H enc _ F => by rw [OpenClaim.pre_eq_preRow]; exact lifted os started H enc F)
theorem plain (f : FuncId) (fn : Func) (hf : Tryz.pinned.checked.prog.funcNamed "hayrick/hayricklaw30.ShellRows" = some f) (hfn : Tryz.pinned.checked.prog.funcs[f]? = some fn) :
  true = Tryz.pinned.checked.prog.looks [] ∧ ∀ (j : Nat) t, fn.params[j]? = some t → Tryz.pinned.checked.prog.wantsStandIn t = false := by
 obtain rfl : f = 4 := Option.some.inj ((show Tryz.prog.funcNamed "hayrick/hayricklaw30.ShellRows" = some 4 by kernel_rfl).symm.trans hf) |>.symm
 obtain rfl : fn = Tryz.f4 := (Option.some.inj (Tryz.func4.symm.trans hfn)).symm
 refine ⟨by kernel_rfl, fun j t ht => ?_⟩
 rw [Tryz.params4] at ht
 have h9 : t = 37 ∨ t = 9 := by simpa using Array.mem_of_getElem? ht
 rcases h9 with rfl | rfl
 ·exact (show Tryz.prog.wantsStandIn 37 = false by kernel_rfl)
 ·exact (show Tryz.prog.wantsStandIn 9 = false by kernel_rfl)
theorem proved : Rows.ShellRowsUptoCardSaid :=
 Claim7.holds_tied_plain_at .later [] _ _ _ _ over (fun _ h => by cases h) (by kernel_rfl) (fun _ h => by cases h) shellRowsUpto_row_tie rfl ⟨rfl, rfl⟩ (by kernel_rfl) rfl plain (by kernel_rfl)
end Go.Proofs.YtlcigkdflbfdgaaGreatDoor.sg
