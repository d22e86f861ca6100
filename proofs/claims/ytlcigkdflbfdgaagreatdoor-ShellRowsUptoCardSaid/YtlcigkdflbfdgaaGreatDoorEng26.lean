/-
 The engine, part 26: what a function of the program comes to over an abstract heap; each part is proved against the model.
-/
import Derived.Below
import Derived.ChangeSame
namespace Go.Eng
open Go Go.RowKit Go.WideShapes Go.ChangeShapes
section
variable {H : Type} {enc : TypeId × Value → H} {P : Program}
theorem row_below {f : Func} {s : ChangeSpec} {apart fresh handsOn again : Bool} {W W' : World} {args : Array Value} {v : Value} {ds gs : List (DataW H)} {before pa pv : List MemPlace} (hW : DataW.Whole enc P f.params.toList s.vars apart W args.toList ds gs before)
  (hr : ∀ (b : Nat) (sp : Nat → Bool) (hd : Bool), DataW.TrodAll enc P W' b sp hd f.resultTypes.toList (v.resultList f.resultTypes.size) (s.fn H (ds ++ gs)).results [])
  (ha : ∀ sp : Nat → Bool, (∀ p ∈ before, sp p.block = true) → DataW.TrodAll enc P W' 0 sp true f.params.toList args.toList (s.fn H (ds ++ gs)).args pa)
  (hv : ∀ sp : Nat → Bool, (∀ p ∈ before, sp p.block = true) → DataW.TrodVars enc P W' sp s.vars (s.fn H (ds ++ gs)).vars pv)
  (hp : before = pa ++ pv) (hb : Below W.heap.size W W') (hk : ∀ (j : Nat) (t : TypeId) (r : Value), f.resultTypes[j]? = some t → (v.resultList f.resultTypes.size)[j]? = some r → Value.okWide P W' .any 0 t r) :
  s.post enc P f apart fresh handsOn again W args v W' := by
 have old : ∀ p ∈ before, (fun b => decide (b < W.heap.size)) p.block = true := fun p h => decide_eq_true (hW.lt p h)
 obtain ⟨_, _, _, _, _, hz, hn⟩ := id hW
 refine ⟨ds, gs, before, [], pa, pv, hW, hr _ _ _, ha _ old, hv _ old, World.keptBut_mono (fun p h => ⟨h, by rw [hp, List.mem_append] at h; exact .inr h⟩) (hb.frame (· ∈ before)), fun _ => ⟨hk, _, _, ([] ++ pa) ++ pv,
  ⟨[] ++ pa, pv, trodAll_append (ha _ fun _ _ => rfl) (hr _ _ _), hv _ fun _ _ => rfl, rfl, fun b o h => ?_, fun h => ?_⟩, fun p h _ => ?_⟩⟩
 ·have hm : MemPlace.cell b o ∈ before := by rw [hp]; simpa using h
  rw [hb.frozen (hW.lt _ hm)]
  exact hz b o hm
 ·have := hn h
  rw [hp] at this
  simpa using this
 ·rw [hp]; simpa using h
end
end Go.Eng
