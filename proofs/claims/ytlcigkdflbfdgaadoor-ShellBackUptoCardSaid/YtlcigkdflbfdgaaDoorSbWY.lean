/-
  Walks: WX, WY.
-/
import Derived.Test.YtlcigkdflbfdgaaDoorSbWV
import Derived.Test.YtlcigkdflbfdgaaDoorEng31
import Derived.Test.YtlcigkdflbfdgaaDoorRows
namespace Go.Proofs.YtlcigkdflbfdgaaDoor.sb
set_option linter.unusedVariables false
open Go Go.Eng Go.Sh Go.RowKit Go.ChangeShapes Go.WideShapes
section
variable {H : Type} {enc : TypeId × Value → H} {W : World} {T : Tabs} {g0 : Nat}
theorem pick {α : Type} {p : Nat → α → Prop} {n : Nat} (h1 : 1 ≤ n) (h : ∀ i, i < n → ∃ q, p i q) : ∃ f : Nat → α, ∀ i, i < n → p i (f i) := by
  refine ⟨fun i => if hi : i < n then Classical.choose (h i hi) else Classical.choose (h 0 (by omega)), fun i hi => ?_⟩
  simp only [dif_pos hi]
  exact Classical.choose_spec (h i hi)
theorem list2 {α : Type} {l : List α} (h : l.length = 2) : ∃ a b, l = [a, b] := by
  match l, h with
  | [a, b], _ => exact ⟨a, b, rfl⟩
theorem list4 {α : Type} {l : List α} (h : l.length = 4) : ∃ a b c d, l = [a, b, c, d] := by
  match l, h with
  | [a, b, c, d], _ => exact ⟨a, b, c, d, rfl⟩
theorem list6 {α : Type} {l : List α} (h : l.length = 6) : ∃ a b c d e f, l = [a, b, c, d, e, f] := by
  match l, h with
  | [a, b, c, d, e, f], _ => exact ⟨a, b, c, d, e, f, rfl⟩
theorem list9 {α : Type} {l : List α} (h : l.length = 9) : ∃ a b c d e f g i j, l = [a, b, c, d, e, f, g, i, j] := by
  match l, h with
  | [a, b, c, d, e, f, g, i, j], _ => exact ⟨a, b, c, d, e, f, g, i, j, rfl⟩
theorem bulk_pos (d : DataW H) : 1 ≤ Rows.uptoBulk d := by
  cases d with
  | lit l => cases l <;> simp [Rows.uptoBulk]
  | _ => simp [Rows.uptoBulk]
theorem bulkAll_append : ∀ a b : List (DataW H), Rows.uptoBulkAll (a ++ b) = Rows.uptoBulkAll a + Rows.uptoBulkAll b
  | [], b => by simp [Rows.uptoBulkAll]
  | d :: a, b => by
    rw [List.cons_append, Rows.uptoBulkAll, bulkAll_append a b, Rows.uptoBulkAll]
    omega
theorem rows_nil (hS : Shows T g0 W) (k : Nat) : RowsAt T [] (some ⟨g0, 0, none⟩) 0 k [] :=
  ⟨by simp, fun A hA => ⟨fun _ h => absurd h (Nat.not_lt_zero _), fun m c => by
    unfold AW.elems
    simp only [Nat.zero_mul]
    exact hS.1 A hA⟩⟩
/-- A slice, its elements opened as 'good' says. -/
theorem slice_arg (hS : Shows T g0 W) {t e fuel k : Nat} {v : Value} {x : DataW H × List MemPlace} (ht : PP.underlying t = some (.slice e)) (hc : PP.cellsOf e = k) (hk : 1 ≤ k) {α : Type} [Inhabited α] (good : List Value → DataW H → α → Prop)
    (hel : ∀ n cs y, DataW.trod enc PP W 0 (fun _ => true) true n e cs = some y → ∃ q : α, good cs y.1 q) (hgood : ∀ cs y q, good cs y q → (cs.map (absV g0 W)).all notHole = true)
    (h : DataW.trod enc PP W 0 (fun _ => true) true fuel t [v] = some x) :
    ∃ (d : SL) (cs : Nat → List Value) (D : Nat → DataW H) (q : Nat → α), absV g0 W v = .slice d.1 d.2.1 d.2.2 ∧ RowsAt T [] d.1 d.2.1 k ((List.range d.2.1).flatMap fun i => (cs i).map (absV g0 W)) ∧
      (∀ i, i < d.2.1 → good (cs i) (D i) (q i) ∧ ((((List.range d.2.1).flatMap fun i => (cs i).map (absV g0 W)).drop (i * k)).take k) = (cs i).map (absV g0 W)) ∧ Rows.uptoBulkAll ((List.range d.2.1).map D) ≤ Rows.uptoBulk x.1 := by
  rcases Go.Deep.open_slice ht h with ⟨hcs, rfl⟩ | ⟨a, len, cap, m, n, D, Pl, hcs, _, hl, hm, hmm, rfl, hx⟩
  · obtain rfl : v = .slice none 0 0 := by simpa using hcs
    exact ⟨(none, 0, 0), fun _ => [], fun _ => .nil, fun _ => default, rfl, .nil, fun i hi => absurd hi (Nat.not_lt_zero _), by simp [Rows.uptoBulkAll]⟩
  · obtain rfl : v = .slice (some a) len cap := by simpa using hcs
    simp only [if_true] at hmm
    subst hmm
    rw [hc] at hx
    by_cases hc0 : m = 0
    · subst hc0
      obtain rfl : len = 0 := by omega
      exact ⟨(some ⟨g0, 0, none⟩, 0, 0), fun _ => [], fun _ => .nil, fun _ => default, rfl, rows_nil hS k, fun i hi => absurd hi (Nat.not_lt_zero _), by simp [Rows.uptoBulkAll]⟩
    · obtain ⟨cs, hcs2⟩ := pick (show 1 ≤ m by omega) hx
      obtain ⟨q, hq⟩ := pick (p := fun i q => good (cs i) (D i) q) (show 1 ≤ m by omega) fun i hi => hel n (cs i) (D i, Pl i) (hcs2 i hi).2
      obtain ⟨hb, hR, hch⟩ := rows_arg (T := T) hS (n := len) (cap := m) (ch := cs) hk hl (by omega) (fun i hi => by
        obtain ⟨_, h2, h3⟩ := World.cells?_some (hcs2 i hi).1
        exact ⟨h2, h3⟩) (fun i hi => hgood _ _ _ (hq i (by omega)))
      refine ⟨(some a, len, m), cs, D, q, ?_, hR, fun i hi => ⟨hq i (by have : i < len := hi; omega), hch i hi⟩, ?_⟩
      · show absV g0 W (.slice (some a) len m) = _
        show (if len ≤ m then (if m = 0 then Value.slice (some ⟨g0, 0, none⟩) 0 0 else if a.block < W.heap.size then Value.slice (some a) len m else Value.tuple #[]) else Value.tuple #[]) = _
        rw [if_pos hl, if_neg hc0, if_pos hb]
      · show Rows.uptoBulkAll ((List.range len).map D) ≤ Rows.uptoBulk (.slice ((List.range len).map D) _)
        rw [Rows.uptoBulk]
        omega
theorem count_bulk : ∀ l : List (DataW H), l.length ≤ Rows.uptoBulkAll l
  | [] => Nat.zero_le _
  | d :: l => by
    have := count_bulk l
    have := bulk_pos d
    rw [Rows.uptoBulkAll, List.length_cons]
    omega
/-- What is weighed, element by element. -/
theorem weigh {α : Type} (w : α → Nat) {D : Nat → DataW H} {q : Nat → α} : ∀ n : Nat, (∀ i, i < n → w (q i) ≤ Rows.uptoBulk (D i)) → (((List.range n).map q).map w).sum ≤ Rows.uptoBulkAll ((List.range n).map D)
  | 0, _ => by simp
  | n + 1, h => by
    have ih := weigh w n fun i hi => h i (by omega)
    have h1 := h n (by omega)
    rw [List.range_succ, List.map_append, List.map_append, List.map_append, bulkAll_append, List.sum_append]
    simp only [List.map_cons, List.map_nil, List.sum_cons, List.sum_nil, Rows.uptoBulkAll]
    omega
theorem cell1 {t : Nat} {fuel : Nat} {k : IntKind} {v : Value} {y : DataW H × List MemPlace} (ht : PP.underlying t = some (.int k)) (h : DataW.trod enc PP W 0 (fun _ => true) true fuel t [v] = some y) : ∃ z, v = .int k z ∧ k.min ≤ z ∧ z ≤ k.max := by
  obtain ⟨z, h1, _, h3⟩ := DataW.trod_int ht h
  refine ⟨z, by simpa using h1, ?_⟩
  simp only [Lit.wf, Bool.and_eq_true, decide_eq_true_eq] at h3
  exact h3
theorem cellS {t : Nat} {fuel : Nat} {v : Value} {y : DataW H × List MemPlace} (ht : PP.underlying t = some .string) (h : DataW.trod enc PP W 0 (fun _ => true) true fuel t [v] = some y) : ∃ s : List UInt8, v = .string (BA s) ∧ s.length + 1 = Rows.uptoBulk y.1 := by
  obtain ⟨s, h1, rfl, _⟩ := DataW.trod_string ht h
  exact ⟨s.data.toList, by rw [← BA_of s]; simpa using h1, by simp [Rows.uptoBulk]⟩
theorem u8_cells (z : Nat → Int) : ∀ n : Nat, (∀ i, i < n → 0 ≤ z i ∧ z i < 256) → ((List.range n).flatMap fun i => ([.int .u8 (z i)] : List Value).map (absV g0 W)) = u8s ((List.range n).map fun i => UInt8.ofNat (z i).toNat)
  | 0, _ => rfl
  | n + 1, h => by
    rw [List.range_succ, List.flatMap_append, List.map_append, u8s_append, u8_cells z n fun i hi => h i (by omega)]
    congr 1
    obtain ⟨h1, h2⟩ := h n (by omega)
    simp only [List.flatMap_cons, List.flatMap_nil, List.map_cons, List.map_nil, List.append_nil, absV, u8s]
    congr 2
    rw [UInt8.toNat_ofNat', Nat.mod_eq_of_lt (by omega)]
    omega
/-- Bytes. -/
theorem bytes_arg (hS : Shows T g0 W) {fuel : Nat} {v : Value} {x : DataW H × List MemPlace} (h : DataW.trod enc PP W 0 (fun _ => true) true fuel 46 [v] = some x) :
    ∃ (d : SL) (bs : List UInt8), absV g0 W v = .slice d.1 d.2.1 d.2.2 ∧ SeesB T [] d.1 d.2.1 bs ∧ bs.length ≤ Rows.uptoBulk x.1 := by
  obtain ⟨d, cs, D, q, h1, h2, h3, h4⟩ := slice_arg (T := T) hS Tryd.underlying46 (k := 1) (by kernel_rfl) (Nat.le_refl _) (good := fun cs _ (z : Int) => cs = [.int .u8 z] ∧ 0 ≤ z ∧ z < 256) (fun n cs y hy => by
    obtain ⟨z, e1, _, e3⟩ := DataW.trod_int Tryd.underlying5 hy
    simp only [Lit.wf, Bool.and_eq_true, decide_eq_true_eq] at e3
    refine ⟨z, e1, ?_, ?_⟩
    · exact e3.1
    · exact Int.lt_of_le_of_lt e3.2 (by decide)) (fun cs y z hz => by rw [hz.1]; rfl) h
  obtain ⟨a, n, c⟩ := d
  simp only at h1 h2 h3 h4
  have e : ((List.range n).flatMap fun i => (cs i).map (absV g0 W)) = u8s ((List.range n).map fun i => UInt8.ofNat (q i).toNat) := by
    rw [← u8_cells (g0 := g0) (W := W) q n fun i hi => (h3 i hi).1.2, List.flatMap_def, List.flatMap_def]
    congr 1
    exact List.map_congr_left fun i hi => by rw [(h3 i (List.mem_range.1 hi)).1.1]
  rw [e] at h2
  refine ⟨(a, n, c), _, h1, seesB_rows h2, ?_⟩
  have := count_bulk ((List.range n).map D)
  rw [List.length_map] at this
  rw [List.length_map]
  omega
theorem fld {fs : Array Field} {n : Nat} {cs : List Value} {xs : List (DataW H × List MemPlace)} (hf : ∀ (i : Nat) (f : Field), fs[i]? = some f → DataW.trod enc PP W 0 (fun _ => true) true n f.type ((cs.drop f.offset).take (PP.cellsOf f.type)) = xs[i]?)
    (i : Nat) {f : Field} (hi : fs[i]? = some f) {t o c : Nat} (ht : f.type = t) (ho : f.offset = o) (hc : PP.cellsOf t = c) : DataW.trod enc PP W 0 (fun _ => true) true n t ((cs.drop o).take c) = xs[i]? := by
  subst ht ho
  rw [← hc]
  exact hf i f hi
instance : Inhabited Evt := ⟨⟨0, [], [], 0, 0, []⟩⟩
instance : Inhabited Rw := ⟨row0 0⟩
def wE (x : Evt) : Nat := x.p.length + x.q.length + x.data.length + 1
/-- An event's cells. -/
theorem evt_arg (hS : Shows T g0 W) {fuel : Nat} {cs : List Value} {x : DataW H × List MemPlace} (h : DataW.trod enc PP W 0 (fun _ => true) true fuel 65 cs = some x) :
    ∃ (e : Evt) (d : SL), cs.map (absV g0 W) = evtC e d ∧ SeesB T [] d.1 d.2.1 e.data ∧ Nums e ∧ wE e ≤ Rows.uptoBulk x.1 := by
  obtain ⟨xs, n, _, rfl, hlen, hxl, hf⟩ := DataW.trod_struct Tryd.underlying65 h
  rw [show PP.cellsOf 65 = 6 by kernel_rfl] at hlen
  have ci : PP.cellsOf 3 = 1 := by kernel_rfl
  have cst : PP.cellsOf 9 = 1 := by kernel_rfl
  have cb : PP.cellsOf 46 = 1 := by kernel_rfl
  obtain ⟨y0, y1, y2, y3, y4, y5, rfl⟩ := list6 hxl
  obtain ⟨v0, v1, v2, v3, v4, v5, rfl⟩ := list6 hlen
  have f0 := fld hf 0 rfl (t := 3) (o := 0) rfl rfl ci
  have f1 := fld hf 1 rfl (t := 9) (o := 1) rfl rfl cst
  have f2 := fld hf 2 rfl (t := 9) (o := 2) rfl rfl cst
  have f3 := fld hf 3 rfl (t := 3) (o := 3) rfl rfl ci
  have f4 := fld hf 4 rfl (t := 3) (o := 4) rfl rfl ci
  have f5 := fld hf 5 rfl (t := 46) (o := 5) rfl rfl cb
  obtain ⟨z0, rfl, _⟩ := cell1 Tryd.underlying3 f0
  obtain ⟨s1, rfl, w1⟩ := cellS Tryd.underlying9 f1
  obtain ⟨s2, rfl, w2⟩ := cellS Tryd.underlying9 f2
  obtain ⟨z3, rfl, r3⟩ := cell1 Tryd.underlying3 f3
  obtain ⟨z4, rfl, r4⟩ := cell1 Tryd.underlying3 f4
  obtain ⟨d, bs, e5, hsee, w5⟩ := bytes_arg (T := T) hS f5
  refine ⟨⟨z0, s1, s2, z3, z4, bs⟩, d, ?_, hsee, ⟨r3, r4⟩, ?_⟩
  · simp only [List.map_cons, List.map_nil, e5]
    rfl
  · have p0 := bulk_pos y0.1
    simp only [wE, List.map_cons, List.map_nil, Rows.uptoBulk, Rows.uptoBulkAll]
    omega
theorem evt_hole (e : Evt) (d : SL) : (evtC e d).all notHole = true := by
  obtain ⟨a, n, c⟩ := d
  rfl
theorem events_arg (hS : Shows T g0 W) {fuel : Nat} {v : Value} {x : DataW H × List MemPlace} (h : DataW.trod enc PP W 0 (fun _ => true) true fuel 28 [v] = some x) :
    ∃ (d : SL) (xs : List Evt) (L : List Value), absV g0 W v = .slice d.1 d.2.1 d.2.2 ∧ d.2.1 = xs.length ∧ RowsAt T [] d.1 xs.length 6 L ∧ AllAt (EvtAt T []) 6 L xs ∧ (∀ e ∈ xs, Nums e) ∧ (xs.map wE).sum ≤ Rows.uptoBulk x.1 := by
  obtain ⟨d, cs, D, q, h1, h2, h3, h4⟩ := slice_arg (T := T) hS Tryd.underlying28 (k := 6) (by kernel_rfl) (by decide) (good := fun cs y (e : Evt) => ∃ d : SL, cs.map (absV g0 W) = evtC e d ∧ SeesB T [] d.1 d.2.1 e.data ∧ Nums e ∧ wE e ≤ Rows.uptoBulk y) (fun n cs y hy => evt_arg hS hy)
    (fun cs y e ⟨d, hd, _⟩ => by rw [hd]; exact evt_hole e d) h
  obtain ⟨a, n, c⟩ := d
  simp only at h1 h2 h3 h4
  have hl : ((List.range n).map q).length = n := by rw [List.length_map, List.length_range]
  refine ⟨(a, n, c), (List.range n).map q, _, h1, hl.symm, by rw [hl]; exact h2, ⟨by rw [hl]; exact h2.1, fun i hi => ?_⟩, fun e he => ?_, Nat.le_trans (weigh wE n fun i hi => ?_) h4⟩
  · rw [hl] at hi
    obtain ⟨⟨d, k1, k2, _⟩, k3⟩ := h3 i hi
    rw [k3, k1]
    have e0 : ((List.range n).map q)[i]'(by rw [hl]; exact hi) = q i := by simp
    rw [e0]
    exact ⟨d, rfl, k2⟩
  · obtain ⟨i, hi, rfl⟩ := List.mem_map.1 he
    obtain ⟨⟨d, _, _, k3, _⟩, _⟩ := h3 i (List.mem_range.1 hi)
    exact k3
  · obtain ⟨⟨d, _, _, _, k4⟩, _⟩ := h3 i hi
    exact k4
theorem ents_cells (q : Nat → Int × List UInt8) : ∀ n : Nat, ((List.range n).flatMap fun i => ([.int .i64 (q i).1, .string (BA (q i).2)] : List Value).map (absV g0 W)) = entC ((List.range n).map q)
  | 0 => rfl
  | n + 1 => by
    rw [List.range_succ, List.flatMap_append, List.map_append, entC_append, ents_cells q n]
    rfl
/-- Entries. -/
theorem ents_arg (hS : Shows T g0 W) {fuel : Nat} {v : Value} {x : DataW H × List MemPlace} (h : DataW.trod enc PP W 0 (fun _ => true) true fuel 68 [v] = some x) :
    ∃ (d : SL) (S : List (Int × List UInt8)), absV g0 W v = .slice d.1 d.2.1 d.2.2 ∧ RowsAt T [] d.1 d.2.1 2 (entC S) ∧ d.2.1 = S.length ∧ (∀ p ∈ S, -9223372036854775808 ≤ p.1 ∧ p.1 ≤ 9223372036854775807) ∧ (S.map fun p => p.2.length + 1).sum ≤ Rows.uptoBulk x.1 := by
  obtain ⟨d, cs, D, q, h1, h2, h3, h4⟩ := slice_arg (T := T) hS Tryd.underlying68 (k := 2) (by kernel_rfl) (by decide)
    (good := fun cs y (p : Int × List UInt8) => cs = [.int .i64 p.1, .string (BA p.2)] ∧ (-9223372036854775808 ≤ p.1 ∧ p.1 ≤ 9223372036854775807) ∧ p.2.length + 1 ≤ Rows.uptoBulk y) (fun n cs y hy => by
    obtain ⟨xs, n, _, rfl, hlen, hxl, hf⟩ := DataW.trod_struct Tryd.underlying72 hy
    rw [show PP.cellsOf 72 = 2 by kernel_rfl] at hlen
    have ci : PP.cellsOf 3 = 1 := by kernel_rfl
    have cst : PP.cellsOf 9 = 1 := by kernel_rfl
    obtain ⟨y0, y1, rfl⟩ := list2 hxl
    obtain ⟨v0, v1, rfl⟩ := list2 hlen
    have f0 := fld hf 0 rfl (t := 3) (o := 0) rfl rfl ci
    have f1 := fld hf 1 rfl (t := 9) (o := 1) rfl rfl cst
    obtain ⟨z0, rfl, r0⟩ := cell1 Tryd.underlying3 f0
    obtain ⟨s1, rfl, w1⟩ := cellS Tryd.underlying9 f1
    refine ⟨(z0, s1), rfl, r0, ?_⟩
    simp only [List.map_cons, List.map_nil, Rows.uptoBulk, Rows.uptoBulkAll]
    omega) (fun cs y z hz => by rw [hz.1]; rfl) h
  obtain ⟨a, n, c⟩ := d
  simp only at h1 h2 h3 h4
  have e : ((List.range n).flatMap fun i => (cs i).map (absV g0 W)) = entC ((List.range n).map q) := by
    rw [← ents_cells (g0 := g0) (W := W) q n, List.flatMap_def, List.flatMap_def]
    congr 1
    exact List.map_congr_left fun i hi => by rw [(h3 i (List.mem_range.1 hi)).1.1]
  rw [e] at h2
  refine ⟨(a, n, c), _, h1, h2, by rw [List.length_map, List.length_range], fun p hp => ?_, Nat.le_trans (weigh (fun p : Int × List UInt8 => p.2.length + 1) n fun i hi => (h3 i hi).1.2.2) h4⟩
  obtain ⟨i, hi, rfl⟩ := List.mem_map.1 hp
  exact (h3 i (List.mem_range.1 hi)).1.2.1
def wR (x : Rw) : Nat := x.data.length + (x.ents.map fun p => p.2.length + 1).sum + 1
theorem rw_hole (x : Rw) (d e : SL) : (rwC x d e).all notHole = true := by
  obtain ⟨a, n, c⟩ := d
  obtain ⟨a', n', c'⟩ := e
  rfl
/-- A row's cells. -/
theorem rw_arg (hS : Shows T g0 W) {fuel : Nat} {cs : List Value} {x : DataW H × List MemPlace} (h : DataW.trod enc PP W 0 (fun _ => true) true fuel 70 cs = some x) :
    ∃ (r : Rw) (d e : SL), cs.map (absV g0 W) = rwC r d e ∧ (SeesB T [] d.1 d.2.1 r.data ∧ RowsAt T [] e.1 e.2.1 2 (entC r.ents) ∧ e.2.1 = r.ents.length) ∧ NumsR r ∧ wR r ≤ Rows.uptoBulk x.1 := by
  obtain ⟨xs, n, _, rfl, hlen, hxl, hf⟩ := DataW.trod_struct Tryd.underlying70 h
  rw [show PP.cellsOf 70 = 9 by kernel_rfl] at hlen
  have ci : PP.cellsOf 3 = 1 := by kernel_rfl
  have ce : PP.cellsOf 30 = 1 := by kernel_rfl
  have cbo : PP.cellsOf 4 = 1 := by kernel_rfl
  have cb : PP.cellsOf 46 = 1 := by kernel_rfl
  have cs4 : PP.cellsOf 67 = 4 := by kernel_rfl
  have cen : PP.cellsOf 68 = 1 := by kernel_rfl
  obtain ⟨y0, y1, y2, y3, y4, y5, rfl⟩ := list6 hxl
  obtain ⟨v0, v1, v2, v3, v4, v5, v6, v7, v8, rfl⟩ := list9 hlen
  have f0 := fld hf 0 rfl (t := 3) (o := 0) rfl rfl ci
  have f1 := fld hf 1 rfl (t := 30) (o := 1) rfl rfl ce
  have f2 := fld hf 2 rfl (t := 4) (o := 2) rfl rfl cbo
  have f3 := fld hf 3 rfl (t := 46) (o := 3) rfl rfl cb
  have f4 := fld hf 4 rfl (t := 67) (o := 4) rfl rfl cs4
  have f5 := fld hf 5 rfl (t := 68) (o := 8) rfl rfl cen
  obtain ⟨z0, rfl, _⟩ := cell1 Tryd.underlying3 f0
  obtain ⟨z1, rfl, r1⟩ := cell1 Tryd.underlying30 f1
  obtain ⟨b2, e2, _⟩ := DataW.trod_bool Tryd.underlying4 f2
  obtain rfl : v2 = .bool b2 := by simpa using e2
  obtain ⟨d, bs, e3, hsee, w3⟩ := bytes_arg (T := T) hS f3
  obtain ⟨ent, S, e8, hro, hn8, r8, w8⟩ := ents_arg (T := T) hS f5
  obtain ⟨xs4, n4, _, rfl, _, hxl4, hf4⟩ := DataW.trod_struct Tryd.underlying67 f4
  obtain ⟨q0, q1, q2, q3, rfl⟩ := list4 hxl4
  have g0' := fld hf4 0 rfl (t := 3) (o := 0) rfl rfl ci
  have g1' := fld hf4 1 rfl (t := 3) (o := 1) rfl rfl ci
  have g2' := fld hf4 2 rfl (t := 3) (o := 2) rfl rfl ci
  have g3' := fld hf4 3 rfl (t := 3) (o := 3) rfl rfl ci
  obtain ⟨s0, rfl, u0⟩ := cell1 Tryd.underlying3 g0'
  obtain ⟨s1, rfl, u1⟩ := cell1 Tryd.underlying3 g1'
  obtain ⟨s2, rfl, u2⟩ := cell1 Tryd.underlying3 g2'
  obtain ⟨s3, rfl, u3⟩ := cell1 Tryd.underlying3 g3'
  refine ⟨⟨z0, z1, b2, bs, s0, s1, s2, s3, S⟩, d, ent, ?_, ⟨hsee, hro, hn8⟩, ⟨r1, fun m hm => ?_, r8⟩, ?_⟩
  · simp only [List.map_cons, List.map_nil, e3, e8]
    rfl
  · simp only [statL, List.mem_cons, List.not_mem_nil, or_false] at hm
    rcases hm with rfl | rfl | rfl | rfl
    · exact u0
    · exact u1
    · exact u2
    · exact u3
  · simp only [wR, List.map_cons, List.map_nil, Rows.uptoBulk, Rows.uptoBulkAll] at w3 w8 ⊢
    omega
theorem rowlist_arg (hS : Shows T g0 W) {fuel : Nat} {v : Value} {x : DataW H × List MemPlace} (h : DataW.trod enc PP W 0 (fun _ => true) true fuel 29 [v] = some x) :
    ∃ (d : SL) (xs : List Rw) (L : List Value), absV g0 W v = .slice d.1 d.2.1 d.2.2 ∧ d.2.1 = xs.length ∧ RowsAt T [] d.1 xs.length 9 L ∧ AllAt (RwAt T []) 9 L xs ∧ (∀ r ∈ xs, NumsR r) ∧ (xs.map wR).sum ≤ Rows.uptoBulk x.1 := by
  obtain ⟨d, cs, D, q, h1, h2, h3, h4⟩ := slice_arg (T := T) hS Tryd.underlying29 (k := 9) (by kernel_rfl) (by decide)
    (good := fun cs y (r : Rw) => ∃ d e : SL, cs.map (absV g0 W) = rwC r d e ∧ (SeesB T [] d.1 d.2.1 r.data ∧ RowsAt T [] e.1 e.2.1 2 (entC r.ents) ∧ e.2.1 = r.ents.length) ∧ NumsR r ∧ wR r ≤ Rows.uptoBulk y) (fun n cs y hy => rw_arg hS hy)
    (fun cs y r ⟨d, e, hd, _⟩ => by rw [hd]; exact rw_hole r d e) h
  obtain ⟨a, n, c⟩ := d
  simp only at h1 h2 h3 h4
  have hl : ((List.range n).map q).length = n := by rw [List.length_map, List.length_range]
  refine ⟨(a, n, c), (List.range n).map q, _, h1, hl.symm, by rw [hl]; exact h2, ⟨by rw [hl]; exact h2.1, fun i hi => ?_⟩, fun e he => ?_, Nat.le_trans (weigh wR n fun i hi => ?_) h4⟩
  · rw [hl] at hi
    obtain ⟨⟨d, e, k1, ⟨k2, k4, k5⟩, _⟩, k3⟩ := h3 i hi
    rw [k3, k1]
    have e0 : ((List.range n).map q)[i]'(by rw [hl]; exact hi) = q i := by simp
    rw [e0]
    exact ⟨d, e, rfl, k2, k4, k5⟩
  · obtain ⟨i, hi, rfl⟩ := List.mem_map.1 he
    obtain ⟨⟨d, e, _, _, k3, _⟩, _⟩ := h3 i (List.mem_range.1 hi)
    exact k3
  · obtain ⟨⟨d, e, _, _, _, k4⟩, _⟩ := h3 i hi
    exact k4
end
end Go.Proofs.YtlcigkdflbfdgaaDoor.sb
namespace Go.Proofs.YtlcigkdflbfdgaaDoor.sb
set_option linter.unusedVariables false
open Go Go.Eng Go.Sh
theorem catV_sum {α : Type} (f : α → List UInt8) (w : α → Nat) (K : Nat) : ∀ xs : List α, (∀ x ∈ xs, (f x).length + 1 ≤ K * w x) → (catV f xs).length ≤ K * (xs.map w).sum
  | [], _ => by simp [catV]
  | x :: xs, h => by
    have ih := catV_sum f w K xs fun y hy => h y (.tail _ hy)
    have h1 := h x (.head _)
    have e : catV f (x :: xs) = (f x ++ [10]) ++ catV f xs := by simp [catV]
    rw [e, List.length_append, List.length_append, List.map_cons, List.sum_cons, Nat.mul_add]
    simp only [List.length_cons, List.length_nil]
    omega
theorem lineV_len {x : Evt} (hn : Nums x) : (lineV x).length + 1 ≤ 64 * wE x := by
  have w1 := word_le x.p
  have w2 := word_le x.q
  have w3 := word_le x.data
  have i1 := itoa_len hn.1
  have i2 := itoa_len hn.2
  have n1 := nameV_len x.kind
  have p1 := putV_len (shapeV x.kind).1 (nameV x.kind) (word x.p)
  have p2 := putV_len (shapeV x.kind).2.1 (putV (shapeV x.kind).1 (nameV x.kind) (word x.p)) (word x.q)
  have p3 := putV_len (shapeV x.kind).2.2.1 (putV (shapeV x.kind).2.1 (putV (shapeV x.kind).1 (nameV x.kind) (word x.p)) (word x.q)) (Lib.itoa x.a)
  have p4 := putV_len (shapeV x.kind).2.2.2.1 (putV (shapeV x.kind).2.2.1 (putV (shapeV x.kind).2.1 (putV (shapeV x.kind).1 (nameV x.kind) (word x.p)) (word x.q)) (Lib.itoa x.a)) (Lib.itoa x.b)
  have p5 := putV_len (shapeV x.kind).2.2.2.2 (putV (shapeV x.kind).2.2.2.1 (putV (shapeV x.kind).2.2.1 (putV (shapeV x.kind).2.1 (putV (shapeV x.kind).1 (nameV x.kind) (word x.p)) (word x.q)) (Lib.itoa x.a)) (Lib.itoa x.b)) (word x.data)
  unfold lineV wE
  omega
theorem entsT_sum : ∀ L : List (Int × List UInt8), (∀ p ∈ L, -9223372036854775808 ≤ p.1 ∧ p.1 ≤ 9223372036854775807) → (entsT L).length ≤ 25 * (L.map fun p => p.2.length + 1).sum
  | [], _ => by simp [entsT]
  | p :: t, h => by
    have ih := entsT_sum t fun q hq => h q (.tail _ hq)
    have w := word_le p.2
    have i := itoa_len (h p (.head _))
    have e : entsT (p :: t) = entT p ++ entsT t := by simp [entsT]
    have e2 : (entT p).length = 1 + (Lib.itoa p.1).length + 1 + (word p.2).length := by simp [entT]; omega
    rw [e, List.length_append, List.map_cons, List.sum_cons]
    omega
theorem statT_len {x : Rw} (h : ∀ n ∈ statL x, -9223372036854775808 ≤ n ∧ n ≤ 9223372036854775807) : (statT (statL x)).length ≤ 88 := by
  have a1 := itoa_len (h x.s1 (by simp [statL]))
  have a2 := itoa_len (h x.s2 (by simp [statL]))
  have a3 := itoa_len (h x.s3 (by simp [statL]))
  have a4 := itoa_len (h x.s4 (by simp [statL]))
  simp only [statT, statL, List.flatMap_cons, List.flatMap_nil, List.length_append, List.length_cons, List.length_nil]
  omega
theorem rlV_len {x : Rw} (hn : NumsR x) : (rlV x).length + 1 ≤ 128 * wR x := by
  have n1 := nameV_len x.kind
  have i1 := itoa_len hn.err
  have w1 := word_le x.data
  have w2 := statT_len hn.stat
  have w3 := entsT_sum x.ents hn.ino
  have ht : (tailV x).length ≤ 4 * x.data.length + 92 + 25 * (x.ents.map fun p => p.2.length + 1).sum := by
    unfold tailV
    split
    · rw [List.length_append]; simp only [List.length_cons, List.length_nil]; omega
    split
    · omega
    split
    · omega
    split
    · split <;> simp only [List.length_cons, List.length_nil] <;> omega
    · simp only [List.length_nil]; omega
  unfold rlV wR
  split
  · rw [List.length_append, List.length_append]; simp only [List.length_cons, List.length_nil]; omega
  · rw [List.length_append, List.length_append]; simp only [List.length_cons, List.length_nil]; omega
theorem sum_mem {α : Type} (w : α → Nat) : ∀ {xs : List α} {x : α}, x ∈ xs → w x ≤ (xs.map w).sum
  | y :: xs, x, h => by
    rw [List.map_cons, List.sum_cons]
    rcases List.mem_cons.1 h with rfl | h
    · omega
    · have := sum_mem w h; omega
theorem count_sum {α : Type} (w : α → Nat) (h : ∀ x, 1 ≤ w x) : ∀ xs : List α, xs.length ≤ (xs.map w).sum
  | [] => Nat.zero_le _
  | x :: xs => by
    have := count_sum w h xs
    have := h x
    rw [List.map_cons, List.sum_cons, List.length_cons]
    omega
/-- A list of events of bounded weight. -/
structure FewE (xs : List Evt) : Prop where
  nums : ∀ x ∈ xs, Nums x
  sum : (xs.map wE).sum ≤ 1048576
theorem FewE.small {xs : List Evt} (h : FewE xs) : ∀ x ∈ xs, SmallE x := fun x hx => by
  have := sum_mem wE hx
  have := h.sum
  unfold wE at *
  exact ⟨by omega, by omega, by omega, h.nums x hx⟩
theorem FewE.count {xs : List Evt} (h : FewE xs) : xs.length < 2 ^ 36 := by
  have := count_sum wE (fun x => by unfold wE; omega) xs
  have := h.sum
  omega
theorem FewE.text {xs : List Evt} (h : FewE xs) : (catV lineV xs).length < 2 ^ 38 := by
  have := catV_sum lineV wE 64 xs fun x hx => lineV_len (h.nums x hx)
  have := h.sum
  omega
/-- A list of rows of bounded weight. -/
structure FewR (xs : List Rw) : Prop where
  nums : ∀ x ∈ xs, NumsR x
  sum : (xs.map wR).sum ≤ 1048576
theorem FewR.small {xs : List Rw} (h : FewR xs) : ∀ x ∈ xs, Small x := fun x hx => by
  have h1 := sum_mem wR hx
  have h2 := h.sum
  have hn := h.nums x hx
  have h3 : x.data.length + (x.ents.map fun p => p.2.length + 1).sum + 1 ≤ 1048576 := by have e : wR x = x.data.length + (x.ents.map fun p => p.2.length + 1).sum + 1 := rfl; omega
  have h4 := count_sum (fun p : Int × List UInt8 => p.2.length + 1) (fun _ => by omega) x.ents
  exact small_mk x 1048576 (Nat.le_refl _) hn.err hn.stat (by omega) (by omega) fun p hp => by
    have := sum_mem (fun p : Int × List UInt8 => p.2.length + 1) hp
    have hi := hn.ino p hp
    exact ⟨by omega, hi⟩
theorem FewR.count {xs : List Rw} (h : FewR xs) : xs.length < 2 ^ 36 := by
  have := count_sum wR (fun x => by unfold wR; omega) xs
  have := h.sum
  omega
theorem FewR.text {xs : List Rw} (h : FewR xs) : (catV rlV xs).length < 2 ^ 38 := by
  have := catV_sum rlV wR 128 xs fun x hx => rlV_len (h.nums x hx)
  have := h.sum
  omega
/-- What is read is small. -/
theorem read_small {s : List UInt8} {xs : List Evt} (hs : s.length ≤ 65536) (h : parseV eventV s = .ok xs) : ∀ x ∈ xs, SmallE x := fun x hx => by
  obtain ⟨one, h1, h2⟩ := (parse_all _ xs s h).2 x hx
  unfold eventV at h2
  split at h2
  · obtain rfl := Option.some.inj h2
    have f := fineE one
    have p := f.p
    have q := f.q
    have d := f.data
    exact ⟨by omega, by omega, by omega, f.a, f.b⟩
  · cases h2
theorem write_cat {α : Type} (f : α → List UInt8) (o : α → Option (List UInt8)) (ho : ∀ x t, o x = some t → t = f x) : ∀ (xs : List α) (t : List UInt8), writeV o xs = some t → catV f xs = t
  | [], t, h => by
    obtain rfl := Option.some.inj h
    rfl
  | x :: xs, t, h => by
    rw [writeV] at h
    cases hx : o x with
    | none => rw [hx] at h; cases h
    | some u =>
      rw [hx] at h
      simp only [Option.map_eq_some_iff] at h
      obtain ⟨r, hr, rfl⟩ := h
      have e : catV f (x :: xs) = (f x ++ [10]) ++ catV f xs := by simp [catV]
      rw [e, write_cat f o ho xs r hr, ho x u hx]
      simp
theorem lineO_eq {x : Evt} {t : List UInt8} (h : lineO x = some t) : t = lineV x := by
  unfold lineO at h
  split at h
  · cases h
  · exact (Option.some.inj h).symm
theorem rowO_eq {x : Rw} {t : List UInt8} (h : rowO x = some t) : t = rlV x := by
  unfold rowO at h
  split at h
  · exact (Option.some.inj h).symm
  · cases h
theorem textR_back {α : Type} {o : α → Option (List UInt8)} {xs : List α} {s : List UInt8} (h : writeV o xs = some s) (hs : s.length ≤ 65536) : textR o xs = (s, 0) := by
  unfold textR
  rw [h]
  exact if_neg (by omega)
/-- A text that was written: how. -/
theorem textR_cases {α : Type} (o : α → Option (List UInt8)) (xs : List α) : textR o xs = ([], 1) ∨ textR o xs = ([], 3) ∨ ∃ t, writeV o xs = some t ∧ t.length ≤ 65536 ∧ textR o xs = (t, 0) := by
  unfold textR
  cases h : writeV o xs with
  | none => exact .inl rfl
  | some t =>
    by_cases ht : 65536 < t.length
    · exact .inr (.inl (if_pos ht))
    · exact .inr (.inr ⟨t, rfl, by omega, if_neg ht⟩)
theorem parse_lines {xs : List Evt} {t : List UInt8} (h : ∀ x ∈ xs, Nums x) (ht : writeV lineO xs = some t) : parseV eventV t = .ok xs := parse_write (P := Nums) (fun x u hx hu => ⟨event_line hx hu, line_no10 hu⟩) xs t h ht
theorem parse_rows {xs : List Rw} {t : List UInt8} (h : ∀ x ∈ xs, NumsR x) (ht : writeV rowO xs = some t) : parseV rowV t = .ok xs := parse_write (P := NumsR) (fun x u hx hu => ⟨row_line hx hu, row_no10 hu⟩) xs t h ht
section
variable {os : List (Nat × AObj)} {A : AW} {Q : Value → AW → Prop} {l : List Thing}
theorem backG {a1 a2 : Option Addr} {c1 c2 : Nat} {L1 L2 : List Value} {xs : List Evt} {ys : List Rw} (s : List UInt8) (h1 : RowsAt (tabsOf os) [] a1 xs.length 6 L1) (k1 : AllAt (EvtAt (tabsOf os) []) 6 L1 xs) (f1 : FewE xs) (h2 : RowsAt (tabsOf os) [] a2 ys.length 9 L2) (k2 : AllAt (RwAt (tabsOf os) []) 9 L2 ys) (f2 : FewR ys)
    (hs : s.length < 2 ^ 35) (hr : Runes os) : Gives (tabsOf os) (XX os) 13 5 [.slice a1 xs.length c1, .slice a2 ys.length c2, .string (BA s)] (.bool true) := by
  intro A l Q hp H
  have no : ∀ {l : List Thing}, ∀ t ∈ ([] : List Thing), t ∈ l := fun t ht => by cases ht
  refine t5 (d := 12) ((a1, xs.length, c1), (a2, ys.length, c2), BA s, ()) fun n hn => ?_
  unfold f5 f5c6
  have cx := f1.count
  have cy := f2.count
  refine ((textG h1 k1 no f1.small (by omega) f1.text hr hp fun A1 hp => ⟨(BA (textR lineO xs).1, (textR lineO xs).2, ()), rfl, ?_⟩).mono (show 9 ≤ 12 by decide)).use hn
  refine ev_join (fun _ A' => Hp (tabsOf os) A' l) ?_ fun go2 hgo2 => ?_
  rotate_left
  · -- the events
    unfold f5c5
    have bad : ∀ e : Int, e = 1 ∨ e = 3 → textR lineO xs = ([], e) → Ev (M.ite (eqB (textR lineO xs).2 0) (M.stuck : M Value) (M.join (fun (j61 : (Bool) × Unit) => M.ite j61.1 (M.pure (.bool false)) (go2 (()))) fun go62 =>
        M.ite (!(seq (BA (textR lineO xs).1) st0)) (go62 (true, ())) (M.ite (!(eqB (textR lineO xs).2 1)) (go62 ((!(eqB (textR lineO xs).2 3)), ())) (go62 (false, ()))))) A1 Q := fun e he ht => by
      rw [ht]
      refine ev_f (by rcases he with rfl | rfl <;> simp [eqB_eq]) ?_
      refine ev_join (fun j A' => Hp (tabsOf os) A' l ∧ j = (false, ())) ?_ fun go62 hgo62 => ?_
      · rintro _ A2 ⟨hp, rfl⟩
        exact ev_f rfl (hgo2 _ A2 hp)
      rw [show st0 = BA [] from rfl]
      refine ev_f (by rw [seq_self]; rfl) ?_
      rcases he with rfl | rfl
      · exact ev_f (by simp [eqB_eq]) (hgo62 _ A1 ⟨hp, rfl⟩)
      · exact ev_t (by simp [eqB_eq]) (hgo62 _ A1 ⟨hp, by simp [eqB_eq]⟩)
    rcases textR_cases lineO xs with ht | ht | ⟨t, hw, htl, ht⟩
    · have := bad 1 (.inl rfl) ht
      rw [ht] at this ⊢
      exact this
    · have := bad 3 (.inr rfl) ht
      rw [ht] at this ⊢
      exact this
    · rw [ht]
      have hpx := parse_lines f1.nums hw
      refine ev_t (by simp [eqB_eq]) ?_
      refine (parseE t (by omega) hr hp fun A2 E r hp q => ⟨r, prV_prj r, ?_⟩).use hn
      cases q with
      | long h => omega
      | bad h k he => rw [hpx] at he; cases he
      | ok h zs a L he g1 g2 =>
        rw [hpx] at he
        obtain rfl := Except.ok.inj he
        refine ev_join (fun j A' => Hp (tabsOf os) A' l ∧ j = (false, ())) ?_ fun go52 hgo52 => ?_
        · rintro _ A3 ⟨hp, rfl⟩
          exact ev_f rfl (hgo2 _ A3 hp)
        unfold f5c4
        refine ev_f (by simp [eqB_eq]) (ev_f (by simp [eqB_eq]) ?_)
        refine ((theirsG g1 g2 (fun t ht => List.mem_append_left _ ht) (by omega) hp fun A3 b3 hp => ⟨(b3, xs.length, xs.length), rfl, ?_⟩).mono (show 1 ≤ 12 by decide)).use hn
        refine ((theirsG h1 k1 no (by omega) hp fun A4 b4 hp => ⟨(b4, xs.length, xs.length), rfl, ?_⟩).mono (show 1 ≤ 12 by decide)).use hn
        refine ((eventsG (c1 := xs.length) (c2 := xs.length) (D := _) (.vec (.tail _ (.head _)) g2.1) (g2.mono fun c x k => k.mono fun t ht => .tail _ (.tail _ (List.mem_append_left _ ht))) (.vec (.head _) k1.1) (k1.mono fun c x k => k.mono no) (fun t ht => ht) (by omega) hp
          fun A5 hp => ⟨true, rfl, ?_⟩).mono (show 1 ≤ 12 by decide)).use hn
        refine ev_f rfl ?_
        rw [ltB_lit', BA_size, decide_eq_false (by show ¬ 65536 < t.length; omega)]
        exact hgo52 _ A5 ⟨hp.sub (.cons _ (.cons _ (List.sublist_append_right _ _))), rfl⟩
  rintro _ A2 hp
  refine ((rowsTextG h2 k2 no f2.small (by omega) f2.text hr hp fun A1 hp => ⟨(BA (textR rowO ys).1, (textR rowO ys).2, ()), rfl, ?_⟩).mono (show 9 ≤ 12 by decide)).use hn
  refine ev_join (fun _ A' => Hp (tabsOf os) A' l) ?_ fun go2 hgo2 => ?_
  rotate_left
  · -- the rows
    unfold f5c3
    have bad : ∀ e : Int, e = 1 ∨ e = 3 → textR rowO ys = ([], e) → Ev (M.ite (eqB (textR rowO ys).2 0) (M.stuck : M Value) (M.join (fun (j61 : (Bool) × Unit) => M.ite j61.1 (M.pure (.bool false)) (go2 (()))) fun go62 =>
        M.ite (!(seq (BA (textR rowO ys).1) st0)) (go62 (true, ())) (M.ite (!(eqB (textR rowO ys).2 1)) (go62 ((!(eqB (textR rowO ys).2 3)), ())) (go62 (false, ()))))) A1 Q := fun e he ht => by
      rw [ht]
      refine ev_f (by rcases he with rfl | rfl <;> simp [eqB_eq]) ?_
      refine ev_join (fun j A' => Hp (tabsOf os) A' l ∧ j = (false, ())) ?_ fun go62 hgo62 => ?_
      · rintro _ A2 ⟨hp, rfl⟩
        exact ev_f rfl (hgo2 _ A2 hp)
      rw [show st0 = BA [] from rfl]
      refine ev_f (by rw [seq_self]; rfl) ?_
      rcases he with rfl | rfl
      · exact ev_f (by simp [eqB_eq]) (hgo62 _ A1 ⟨hp, rfl⟩)
      · exact ev_t (by simp [eqB_eq]) (hgo62 _ A1 ⟨hp, by simp [eqB_eq]⟩)
    rcases textR_cases rowO ys with ht | ht | ⟨t, hw, htl, ht⟩
    · have := bad 1 (.inl rfl) ht
      rw [ht] at this ⊢
      exact this
    · have := bad 3 (.inr rfl) ht
      rw [ht] at this ⊢
      exact this
    · rw [ht]
      have hpx := parse_rows f2.nums hw
      refine ev_t (by simp [eqB_eq]) ?_
      refine ((parseR t (by omega) hr hp fun A2 E r hp q => ⟨r, prV_prj r, ?_⟩).mono (show 11 ≤ 12 by decide)).use hn
      cases q with
      | long h => omega
      | bad h k he => rw [hpx] at he; cases he
      | ok h zs a L he g1 g2 =>
        rw [hpx] at he
        obtain rfl := Except.ok.inj he
        refine ev_join (fun j A' => Hp (tabsOf os) A' l ∧ j = (false, ())) ?_ fun go52 hgo52 => ?_
        · rintro _ A3 ⟨hp, rfl⟩
          exact ev_f rfl (hgo2 _ A3 hp)
        unfold f5c2
        refine ev_f (by simp [eqB_eq]) (ev_f (by simp [eqB_eq]) ?_)
        refine ((toldG g1 g2 (fun t ht => List.mem_append_left _ ht) (by omega) hp fun A3 b3 hp => ⟨(b3, ys.length, ys.length), rfl, ?_⟩).mono (show 1 ≤ 12 by decide)).use hn
        refine ((toldG h2 k2 no (by omega) hp fun A4 b4 hp => ⟨(b4, ys.length, ys.length), rfl, ?_⟩).mono (show 1 ≤ 12 by decide)).use hn
        refine ((rowsG (c1 := ys.length) (c2 := ys.length) (D := _) (.vec (.tail _ (.head _)) g2.1) (g2.mono fun c x k => k.mono fun t ht => .tail _ (.tail _ (List.mem_append_left _ ht))) (.vec (.head _) k2.1) (k2.mono fun c x k => k.mono no) (fun t ht => ht) (by omega) (fun x hx => (f2.small x hx).count) hp
          fun A5 hp => ⟨true, rfl, ?_⟩).mono (show 2 ≤ 12 by decide)).use hn
        refine ev_f rfl ?_
        rw [ltB_lit', BA_size, decide_eq_false (by show ¬ 65536 < t.length; omega)]
        exact hgo52 _ A5 ⟨hp.sub (.cons _ (.cons _ (List.sublist_append_right _ _))), rfl⟩
  rintro _ A3 hp
  refine (parseE s (by omega) hr hp fun A4 E r hp q => ⟨r, prV_prj r, ?_⟩).use hn
  have hsub : ∀ A', Hp (tabsOf os) A' (E ++ l) → Hp (tabsOf os) A' l := fun A' hp => hp.sub (List.sublist_append_right _ _)
  unfold f5c1
  refine ev_join (fun _ A' => Hp (tabsOf os) A' l) ?_ fun go8 hgo8 => ?_
  rotate_left
  · -- the text as events
    cases q with
    | long h => exact ev_f (by simp [eqB_eq]) (ev_f rfl (hgo8 _ A4 (hsub A4 hp)))
    | bad h k he => exact ev_f (by simp [eqB_eq]) (ev_f rfl (hgo8 _ A4 (hsub A4 hp)))
    | ok h zs a L he g1 g2 =>
      have hw := write_parse (f := lineO) (fun s x h => line_event h) zs s he
      have hz := (parse_all _ zs s he).1
      have hcat := write_cat lineV lineO (fun x t => lineO_eq) zs s hw
      refine ev_t (by simp [eqB_eq]) ?_
      refine ((textG g1 g2 (fun t ht => List.mem_append_left _ ht) (read_small h he) (by omega) (by rw [hcat]; omega) hr hp fun A5 hp => ⟨(BA (textR lineO zs).1, (textR lineO zs).2, ()), rfl, ?_⟩).mono (show 9 ≤ 12 by decide)).use hn
      rw [textR_back hw h]
      refine ev_join (fun j A' => Hp (tabsOf os) A' l ∧ j = (false, ())) ?_ fun go26 hgo26 => ?_
      · rintro _ A6 ⟨hp, rfl⟩
        exact ev_f rfl (hgo8 _ A6 hp)
      refine ev_f (by simp [eqB_eq]) (ev_f (by simp [eqB_eq]) ?_)
      exact hgo26 _ A5 ⟨hsub A5 hp, by rw [seq_self]; rfl⟩
  rintro _ A5 hp
  refine ((parseR s (by omega) hr hp fun A6 E r hp q => ⟨r, prV_prj r, ?_⟩).mono (show 11 ≤ 12 by decide)).use hn
  have hsub : ∀ A', Hp (tabsOf os) A' (E ++ l) → Hp (tabsOf os) A' l := fun A' hp => hp.sub (List.sublist_append_right _ _)
  unfold f5c0
  have none : ∀ v : Int, Ev (M.join (fun (j18 : (Bool) × Unit) => M.pure (.bool j18.1)) fun go19 => M.ite (eqB (((none, 0, 0) : SL).2.1 : Int) 0) (M.callS (.one (.cell .bool)) (XX os n (.call 11 [])) fun (r22 : Bool) => go19 (r22, ())) (go19 (false, ()))) A6 Q := fun v => by
    refine ev_join (fun j A' => Hp (tabsOf os) A' l ∧ j = (true, ())) ?_ fun go19 hgo19 => ?_
    · rintro _ A7 ⟨hp, rfl⟩
      exact ev_pure (H A7 hp)
    refine ev_t rfl ?_
    exact ((wakesG (hsub A6 hp) ⟨true, rfl, hgo19 _ A6 ⟨hsub A6 hp, rfl⟩⟩).mono (show 1 ≤ 12 by decide)).use hn
  cases q with
  | long h => exact ev_f (by simp [eqB_eq]) (none 0)
  | bad h k he => exact ev_f (by simp [eqB_eq]) (none 0)
  | ok h zs a L he g1 g2 =>
    have hw := write_parse (f := rowO) (fun s x h => line_row h) zs s he
    have hz := (parse_all _ zs s he).1
    have hcat := write_cat rlV rowO (fun x t => rowO_eq) zs s hw
    refine ev_t (by simp [eqB_eq]) ?_
    refine ((rowsTextG g1 g2 (fun t ht => List.mem_append_left _ ht) (rows_small h he) (by omega) (by rw [hcat]; omega) hr hp fun A7 hp => ⟨(BA (textR rowO zs).1, (textR rowO zs).2, ()), rfl, ?_⟩).mono (show 9 ≤ 12 by decide)).use hn
    rw [textR_back hw h]
    refine ev_join (fun j A' => Hp (tabsOf os) A' l ∧ j = (true, ())) ?_ fun go13 hgo13 => ?_
    · rintro _ A8 ⟨hp, rfl⟩
      exact ev_pure (H A8 hp)
    refine ev_t (by simp [eqB_eq]) (ev_t (by simp [eqB_eq]) (ev_t (seq_self _) ?_))
    exact ((wakesG (hsub A7 hp) ⟨true, rfl, hgo13 _ A7 ⟨hsub A7 hp, rfl⟩⟩).mono (show 1 ≤ 12 by decide)).use hn
end
end Go.Proofs.YtlcigkdflbfdgaaDoor.sb
