/-
 From a world with arguments to the walks.
-/
import Derived.Test.YtlcigkdflbfdgaaGreatDoorSgWY
import Derived.Test.YtlcigkdflbfdgaaGreatDoorSgWS
namespace Go.Proofs.YtlcigkdflbfdgaaGreatDoor.sg
set_option linter.unusedVariables false
open Go Go.Eng Go.Sh Go.RowKit
noncomputable section
/-- The tables' blocks. -/
def keys : List Nat := [0, 1, 3, 4, 5]
def osW (p q r s t : Obj) (W : World) : List (Nat × AObj) := tabOs p q r s t ++ worldOs 0 W keys
theorem low_world {g0 : Nat} {W : World} : keepOs keys (worldOs g0 W keys) = [] := by
 unfold keepOs
 rw [List.filter_eq_nil_iff]
 intro x hx hc
 unfold worldOs at hx
 obtain ⟨c, _, hcx⟩ := List.mem_filterMap.1 hx
 have e := worldF_key c x hcx
 unfold worldF at hcx
 split at hcx
 ·cases hcx
 ·rename_i hk
  exact hk (by rw [← e]; simpa using hc)
theorem low_osW (p q r s t : Obj) (W : World) : keepOs [0, 1, 3, 4, 5] (osW p q r s t W) = tabOs p q r s t := by
 show keepOs keys (tabOs p q r s t ++ worldOs 0 W keys) = _
 unfold keepOs
 rw [List.filter_append]
 have h := low_world (g0 := 0) (W := W)
 unfold keepOs at h
 rw [h, List.append_nil]
 rfl
theorem runesW (p q r s t : Obj) (W : World) : Runes (osW p q r s t W) := ⟨⟨p, rfl⟩, ⟨q, rfl⟩⟩
theorem absV_solid {g0 : Nat} {W : World} {v : Value} (h : solid1 v = true) : absV g0 W v = v := by
 cases v <;> first | rfl | cases h
theorem tab_abs {g0 : Nat} {W : World} {g : Nat} {r : Row} {p : Obj} (h : TabAt W g r p) {arr : Array Value} {e : TypeId} {fz : Nat × Nat} (hh : W.heap[g]? = some (.cells arr e fz)) : r.list = arr.toList.map (absV g0 W) := by
 obtain ⟨h1, arr', e', fz', rfl, h3, h4⟩ := h
 rw [hh] at h1
 injection Option.some.inj h1 with e1
 subst e1
 rw [h3]
 conv => lhs; rw [← List.map_id r.list]
 exact List.map_congr_left fun v hv => (absV_solid (h4 v hv)).symm
theorem hole_abs {g0 : Nat} {W : World} {g : Nat} {s : Obj} (h : W.heap[g]? = some s) (hi : IfaceAt s) {arr : Array Value} {e : TypeId} {fz : Nat × Nat} (hh : W.heap[g]? = some (.cells arr e fz)) : holeRow.list.length = arr.size ∧ ∀ v ∈ arr.toList, notHole (absV g0 W v) = false := by
 obtain ⟨ev, e', fz', rfl, hev⟩ := hi
 rw [hh] at h
 injection Option.some.inj h with e1
 subst e1
 refine ⟨by unfold holeRow; rw [Row.ofList_list]; rfl, fun v hv => ?_⟩
 rw [List.mem_singleton.1 hv]
 rcases hev with rfl | ⟨te, pe, rfl⟩ <;> rfl
section
variable {W : World} {p q r s t : Obj} (hp : TabAt W 0 firstRow p) (hq : TabAt W 1 accRow q) (hr : TabAt W 3 powRow r) (hs : W.heap[4]? = some s) (ht : W.heap[5]? = some t) (hf : Five r s t)
include hp hq hr hs ht hf
theorem pinsW : PinsOk PP (osW p q r s t W) (W.heap.size + PP.globals.size) id W := by
 refine pinsWorld (P := PP) (fun b o ho => ?_) (by rw [glob_n]; decide)
 rw [glob_n]
 rcases lk_tab ho with ⟨rfl, rfl⟩ | ⟨rfl, rfl⟩ | ⟨rfl, rfl⟩ | ⟨rfl, rfl⟩ | ⟨rfl, rfl⟩
 ·exact ⟨by decide, by decide, _, p, rfl, fun φ => hp.row φ⟩
 ·exact ⟨by decide, by decide, _, q, rfl, fun φ => hq.row φ⟩
 ·exact ⟨by decide, by decide, _, r, rfl, fun φ => hr.row φ⟩
 ·exact ⟨by decide, by decide, _, s, rfl, fun φ => hole_row hs hf.syn φ⟩
 ·exact ⟨by decide, by decide, _, t, rfl, fun φ => hole_row ht hf.rng φ⟩
theorem showsW : Shows (tabsOf (osW p q r s t W)) 0 W := by
 refine shows_world (r0 := firstRow) (p0 := p) rfl (fun c hc => ?_) fun b o ho => ?_
 ·simp only [keys, List.mem_cons, List.not_mem_nil, or_false] at hc
  rcases hc with rfl | rfl | rfl | rfl | rfl
  ·exact ⟨_, p, rfl, fun arr e fz hh => .inl (tab_abs hp hh)⟩
  ·exact ⟨_, q, rfl, fun arr e fz hh => .inl (tab_abs hq hh)⟩
  ·exact ⟨_, r, rfl, fun arr e fz hh => .inl (tab_abs hr hh)⟩
  ·exact ⟨_, s, rfl, fun arr e fz hh => .inr (hole_abs hs hf.syn hh)⟩
  ·exact ⟨_, t, rfl, fun arr e fz hh => .inr (hole_abs ht hf.rng hh)⟩
 ·rcases lk_tab ho with ⟨rfl, _⟩ | ⟨rfl, _⟩ | ⟨rfl, _⟩ | ⟨rfl, _⟩ | ⟨rfl, _⟩ <;> decide
omit hp hq hr hs ht hf in
theorem vrW {nx : Nat} {os : List (Nat × AObj)} {v : Value} (hnx : nx = W.heap.size + PP.globals.size) (hn : notHole (absV 0 W v) = true) : VR (phi1 os nx id) (absV 0 W v) v := by
 have hphi : ∀ c, c < nx → ∃ x, phi1 os nx id c = some x ∧ ∀ d e, x = some (d, e) → d = c ∧ e = 0 := fun c hc => by
  unfold phi1
  rw [if_pos hc]
  cases lkObj os c with
  | none => exact ⟨none, rfl, fun _ _ h => by cases h⟩
  | some o => exact ⟨_, rfl, fun d e h => by obtain ⟨rfl, rfl⟩ := Prod.mk.injEq .. ▸ Option.some.inj h; exact ⟨rfl, rfl⟩⟩
 obtain ⟨x, hx, hxd⟩ := hphi 0 (by rw [hnx, glob_n]; omega)
 exact absV_vr ⟨x, hx, fun d e h => (hxd d e h).1⟩ (fun c hc => hphi c (by omega)) hn
/-- A call with such arguments. -/
theorem callsW {d f : Nat} {us : List Value} (hn : ∀ u ∈ us, notHole (absV 0 W u) = true) (hg : Gives (tabsOf (osW p q r s t W)) (XX (osW p q r s t W)) d f (us.map (absV 0 W)) (.bool true)) :
  CallsIn Fence.wide 0 PP f us.toArray W fun e w' => e = .returned (.bool true) ∧ Below W.heap.size W w' := by
 refine callsAt hf (low_osW ..) (pinsW hp hq hr hs ht hf) ⟨by rw [List.length_map], fun i x y hx hy => ?_⟩ hg
 rw [List.getElem?_map, hy] at hx
 obtain rfl := Option.some.inj hx
 exact vrW rfl (hn y (List.mem_of_getElem? hy))
end
end
end Go.Proofs.YtlcigkdflbfdgaaGreatDoor.sg
