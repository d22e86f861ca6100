/-
 The engine, part 29: what a function of the program comes to over an abstract heap; each part is proved against the model.
-/
import Derived.Test.YtlcigkdflbfdgaaGreatDoorEng28
import Derived.OpenShut
import GoSem.ClaimJoined
import Derived.LaidMore
import Derived.Lay
import Derived.LaidLaws
import Derived.Deep.DeepHandedRow
namespace Go.Eng
open Go Go.RowKit Go.ChangeShapes
section
variable {P : Program} {w : World}
theorem heap_of_var {n : String} {g : Nat} {cs : Array Value} (hg : P.globalNamed n = some g) (h : w.var? P n = some cs) : ∃ e fz, w.heap[g]? = some (.cells cs e fz) := by
 simp only [World.var?, hg, Option.bind_some] at h
 split at h
 ·rename_i c e fz he
  obtain rfl := Option.some.inj h
  exact ⟨e, fz, he⟩
 ·cases h
theorem laid_mem : ∀ {laid : List (String × DataW Unit)} {ps : List MemPlace} {n : String} {d : DataW Unit}, DataW.LaidVars P w laid ps → (n, d) ∈ laid →
  ∃ g t cs fuel p, P.globalNamed n = some g ∧ (P.globals[g]?).map (·.type) = some t ∧ w.var? P n = some cs ∧ DataW.trod (fun _ => ()) P w 0 (fun _ => true) false fuel t cs.toList = some (d, p)
 | (n', d') :: laid, ps, n, d, h, hm => by
  obtain ⟨g, t, cs, fuel, p, q, h1, h2, h3, h4, h5, _⟩ := h
  rcases List.mem_cons.1 hm with e | hm
  ·obtain ⟨rfl, rfl⟩ := Prod.mk.injEq .. ▸ e
   exact ⟨g, t, cs, fuel, p, h1, h2, h3, h4⟩
  ·exact laid_mem h5 hm
section
variable {H : Type} {enc : TypeId × Value → H} {base : Nat} {sp : Nat → Bool} {held : Bool} {fuel : Nat} {t e : TypeId} {cs : List Value} {p : List MemPlace} {k : IntKind} {n : Nat}
theorem ints_of {ns : List Int} (ht : P.underlying t = some (.array n e)) (he : P.underlying e = some (.int k)) (hc : P.cellsOf e = 1) (hn : P.cellsOf t = n)
  (h : DataW.trod enc P w base sp held fuel t cs = some (.agg (ns.map fun z => .lit (.int k z)), p)) : cs = ns.map fun z => .int k z := by
 obtain ⟨xs, m, _, ex, hl, hlen, hel⟩ := DataW.trod_array ht h
 have e1 : xs.map (·.1) = ns.map fun z => .lit (.int k z) := (DataW.agg.inj (Prod.mk.inj ex).1).symm
 have e2 : ns.length = n := by
  have := congrArg List.length e1
  simp only [List.length_map] at this
  omega
 apply List.ext_getElem?
 intro i
 by_cases hi : i < n
 ·have hE := hel i hi
  rw [hc, Nat.mul_one] at hE
  have hx : i < xs.length := by omega
  rw [List.getElem?_eq_getElem hx] at hE
  obtain ⟨z, f1, f2, _⟩ := DataW.trod_int he hE
  have f3 : (xs.map (·.1))[i]? = (ns.map fun z => (DataW.lit (.int k z) : DataW H))[i]? := by rw [e1]
  rw [List.getElem?_map, List.getElem?_map, List.getElem?_eq_getElem hx, List.getElem?_eq_getElem (show i < ns.length by omega), f2] at f3
  have f4 : z = ns[i]'(by omega) := by
   simp only [Option.map_some, Option.some.injEq, DataW.lit.injEq, Lit.int.injEq, true_and] at f3
   exact f3
  rw [List.getElem?_map, List.getElem?_eq_getElem (show i < ns.length by omega), ← f4]
  have f5 : ((cs.drop i).take 1)[0]? = some (.int k z) := by rw [f1]; rfl
  simpa using f5
 ·rw [List.getElem?_eq_none (by omega), List.getElem?_eq_none (by rw [List.length_map]; omega)]
theorem pairs_list {k : IntKind} : ∀ (ns : List (Int × Int)) (cs : List Value), cs.length = ns.length * 2 → (∀ i (hi : i < ns.length), (cs.drop (i * 2)).take 2 = [.int k ns[i].1, .int k ns[i].2]) → cs = ns.flatMap fun z => [.int k z.1, .int k z.2]
 | [], cs, hl, _ => by simpa using hl
 | z :: ns, cs, hl, key => by
  have k0 := key 0 (by simp)
  simp only [Nat.zero_mul, List.drop_zero, List.getElem_cons_zero] at k0
  have hcs : cs = [.int k z.1, .int k z.2] ++ cs.drop 2 := by rw [← k0, List.take_append_drop]
  have ih := pairs_list ns (cs.drop 2) (by rw [List.length_drop, hl, List.length_cons]; omega) fun i hi => by
   have := key (i + 1) (by simp; omega)
   rw [List.drop_drop, show 2 + i * 2 = (i + 1) * 2 by omega, this]
   rfl
  rw [hcs, List.flatMap_cons, ← ih]
theorem pairs_of {ns : List (Int × Int)} {f0 f1 : Field} {e' : TypeId} (ht : P.underlying t = some (.array n e)) (he : P.underlying e = some (.struct #[f0, f1])) (h0 : f0.type = e') (h1 : f1.type = e') (o0 : f0.offset = 0) (o1 : f1.offset = 1)
  (hk : P.underlying e' = some (.int k)) (hc : P.cellsOf e' = 1) (hc2 : P.cellsOf e = 2) (hn : P.cellsOf t = n * 2)
  (h : DataW.trod enc P w base sp held fuel t cs = some (.agg (ns.map fun z => .agg [.lit (.int k z.1), .lit (.int k z.2)]), p)) : cs = ns.flatMap fun z => [.int k z.1, .int k z.2] := by
 obtain ⟨xs, m, _, ex, hl, hlen, hel⟩ := DataW.trod_array ht h
 have e1 : xs.map (·.1) = ns.map fun z => .agg [.lit (.int k z.1), .lit (.int k z.2)] := (DataW.agg.inj (Prod.mk.inj ex).1).symm
 have e2 : ns.length = n := by
  have := congrArg List.length e1
  simp only [List.length_map] at this
  omega
 have key : ∀ i (hi : i < n), (cs.drop (i * 2)).take 2 = [.int k (ns[i]'(by omega)).1, .int k (ns[i]'(by omega)).2] := fun i hi => by
  have hE := hel i hi
  rw [hc2] at hE
  have hx : i < xs.length := by omega
  rw [List.getElem?_eq_getElem hx] at hE
  obtain ⟨y0, y1, m', f1, f2, f3, f4⟩ := trod_struct2 he hE
  rw [h0, o0, hc, List.drop_zero] at f3
  rw [h1, o1, hc] at f4
  obtain ⟨z0, g1, g2, _⟩ := DataW.trod_int hk f3
  obtain ⟨z1, g3, g4, _⟩ := DataW.trod_int hk f4
  have q : (xs.map (·.1))[i]? = (ns.map fun z => (DataW.agg [.lit (.int k z.1), .lit (.int k z.2)] : DataW H))[i]? := by rw [e1]
  rw [List.getElem?_map, List.getElem?_map, List.getElem?_eq_getElem hx, List.getElem?_eq_getElem (show i < ns.length by omega), f1, g2, g4] at q
  simp only [Option.map_some, Option.some.injEq, DataW.agg.injEq, List.cons.injEq, DataW.lit.injEq, Lit.int.injEq, true_and, and_true] at q
  generalize hY : (cs.drop (i * 2)).take 2 = Y at *
  rw [hc2] at f2
  match Y, f2, g1, g3 with
  | [a, b], _, g1, g3 =>
   simp only [List.take_succ_cons, List.take_zero, List.drop_succ_cons, List.drop_zero, List.cons.injEq, and_true] at g1 g3
   rw [g1, g3, q.1, q.2]
 exact pairs_list ns cs (by rw [hl, hn, e2]) fun i hi => key i (by omega)
end
end
end Go.Eng
namespace Go.Eng
open Go Go.RowKit
def TabAt (w : World) (g : Nat) (r : Row) (p : Obj) : Prop := w.heap[g]? = some p ∧ ∃ arr e fz, p = .cells arr e fz ∧ arr.toList = r.list ∧ ∀ v ∈ r.list, solid1 v = true
theorem tabAt_of {P : Program} {w : World} {n : String} {g : Nat} {cs : Array Value} {r : Row} (hg : P.globalNamed n = some g) (hv : w.var? P n = some cs) (hc : cs.toList = r.list) (hp : ∀ v ∈ r.list, solid1 v = true) : ∃ p, TabAt w g r p := by
 obtain ⟨e, fz, h⟩ := heap_of_var hg hv
 exact ⟨_, h, cs, e, fz, rfl, hc, hp⟩
theorem plain_ints {k : IntKind} (ns : List Int) : ∀ v ∈ ns.map (fun z => Value.int k z), solid1 v = true := fun v hv => by
 obtain ⟨z, _, rfl⟩ := List.mem_map.1 hv
 rfl
theorem TabAt.row {w : World} {g : Nat} {r : Row} {p : Obj} (h : TabAt w g r p) (φ : Phi) : w.heap[g]? = some p ∧ ∃ arr e fz, p = .cells arr e fz ∧ r.list.length ≤ arr.toList.length ∧ ∀ (i : Nat) v u, r.list[i]? = some v → notHole v = true → arr.toList[i]? = some u → VR φ v u := by
 obtain ⟨h1, arr, e, fz, h2, h3, h4⟩ := h
 refine ⟨h1, arr, e, fz, h2, by rw [h3]; exact Nat.le_refl _, fun i v u g1 _ g3 => ?_⟩
 rw [h3, g1] at g3
 obtain rfl := Option.some.inj g3
 exact solid1_vr (h4 v (List.mem_of_getElem? g1))
theorem tab_ints {P : Program} {w : World} {laid : List (String × DataW Unit)} {ps : List MemPlace} {n : String} {g t e N : Nat} {k : IntKind} {ns : List Int} {r : Row} (hl : DataW.LaidVars P w laid ps) (hm : (n, .agg (ns.map fun z => .lit (.int k z))) ∈ laid) (hg : P.globalNamed n = some g)
  (ht : (P.globals[g]?).map (·.type) = some t) (hu : P.underlying t = some (.array N e)) (he : P.underlying e = some (.int k)) (hc : P.cellsOf e = 1) (hn : P.cellsOf t = N) (hr : r.list = ns.map fun z => .int k z) : ∃ p, TabAt w g r p := by
 obtain ⟨g', t', cs, fuel, p, h1, h2, h3, h4⟩ := laid_mem hl hm
 obtain rfl := Option.some.inj (hg.symm.trans h1)
 obtain rfl := Option.some.inj (ht.symm.trans h2)
 exact tabAt_of hg h3 ((ints_of hu he hc hn h4).trans hr.symm) (by rw [hr]; exact plain_ints ns)
theorem tab_pairs {P : Program} {w : World} {laid : List (String × DataW Unit)} {ps : List MemPlace} {n : String} {g t e e' N : Nat} {k : IntKind} {ns : List (Int × Int)} {f0 f1 : Field} {r : Row} (hl : DataW.LaidVars P w laid ps) (hm : (n, .agg (ns.map fun z => .agg [.lit (.int k z.1), .lit (.int k z.2)])) ∈ laid)
  (hg : P.globalNamed n = some g) (ht : (P.globals[g]?).map (·.type) = some t) (hu : P.underlying t = some (.array N e)) (he : P.underlying e = some (.struct #[f0, f1])) (h0 : f0.type = e') (h1 : f1.type = e') (o0 : f0.offset = 0) (o1 : f1.offset = 1) (hk : P.underlying e' = some (.int k)) (hc : P.cellsOf e' = 1)
  (hc2 : P.cellsOf e = 2) (hn : P.cellsOf t = N * 2) (hr : r.list = ns.flatMap fun z => [.int k z.1, .int k z.2]) : ∃ p, TabAt w g r p := by
 obtain ⟨g', t', cs, fuel, p, k1, k2, k3, k4⟩ := laid_mem hl hm
 obtain rfl := Option.some.inj (hg.symm.trans k1)
 obtain rfl := Option.some.inj (ht.symm.trans k2)
 refine tabAt_of hg k3 ((pairs_of hu he h0 h1 o0 o1 hk hc hc2 hn k4).trans hr.symm) fun v hv => ?_
 rw [hr] at hv
 obtain ⟨z, _, hz⟩ := List.mem_flatMap.1 hv
 simp only [List.mem_cons, List.not_mem_nil, or_false] at hz
 rcases hz with rfl | rfl <;> rfl
theorem witness_shaped_row {H : Type} {enc : TypeId × Value → H} {C : Checked} {os : Os} {f : FuncId} {fn : Func} {s : OpenSpec} {conds : List PathCond} {apart : Bool} {laid : List (String × DataW Unit)} (modest : Bool) (w0 : World) (args : Array Value) (hos : w0.os = os)
  (hsh : (w0.forCall (fun _ _ => 0) ⟨#[], args, []⟩).Shaped C.prog)
  (hok : Input.okWideB C.prog (w0.forCall (fun _ _ => 0) ⟨#[], args, []⟩) f ⟨#[], args, []⟩ = true)
  (hrow : s.preRow enc C.prog fn conds apart laid (w0.forCall (fun _ _ => 0) ⟨#[], args, []⟩).memory args) :
  ∃ (w : World) (tape : Tape) (i : Input), w.os = os ∧ (w.forCall tape i).Shaped C.prog ∧ i.vars = [] ∧ Input.okWide C.prog (w.forCall tape i) .any w.heap.size f i ∧
   s.preRow enc C.prog fn conds apart laid (w.forCall tape i).memory i.args ∧ ({ modest := modest } : Assume).holds C.prog (lone (Frame.enter C.prog f i.args .normal) [] (w.forCall tape i)) :=
 ⟨w0, fun _ _ => 0, ⟨#[], args, []⟩, hos, hsh, (Input.okWide_of_okWideB (base := 0) hok).1, (Input.okWide_of_okWideB hok).2, hrow, by
  simp only [Assume.holds]
  exact ⟨by simp, by simp, fun _ => Modest.zero, by simp, by simp⟩⟩
end Go.Eng
