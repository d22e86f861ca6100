/-
  Walks: WX, WY.
-/
import Derived.Test.YtlcigkdflbfdgaaGreatDoorSfWV
import Derived.Test.YtlcigkdflbfdgaaGreatDoorEng31
import Derived.Test.YtlcigkdflbfdgaaGreatDoorRows
namespace Go.Proofs.YtlcigkdflbfdgaaGreatDoor.sf
set_option linter.unusedVariables false
open Go Go.Eng Go.Sh Go.RowKit Go.ChangeShapes Go.WideShapes
section
variable {H : Type} {enc : TypeId × Value → H} {W : World} {T : Tabs} {g0 : Nat}
theorem pick {α : Type} {p : Nat → α → Prop} {n : Nat} (h1 : 1 ≤ n) (h : ∀ i, i < n → ∃ q, p i q) : ∃ f : Nat → α, ∀ i, i < n → p i (f i) := by
  refine ⟨fun i => if hi : i < n then Classical.choose (h i hi) else Classical.choose (h 0 (by omega)), fun i hi => ?_⟩
  simp only [dif_pos hi]
  exact Classical.choose_spec (h i hi)
theorem list6 {α : Type} {l : List α} (h : l.length = 6) : ∃ a b c d e f, l = [a, b, c, d, e, f] := by
  match l, h with
  | [a, b, c, d, e, f], _ => exact ⟨a, b, c, d, e, f, rfl⟩
theorem bulk_pos (d : DataW H) : 1 ≤ Rows.uptoBulk d := by
  cases d with
  | lit l => cases l <;> simp [Rows.uptoBulk]
  | _ => simp [Rows.uptoBulk]
theorem bulkAll_append : ∀ a b : List (DataW H), Rows.uptoBulkAll (a ++ b) = Rows.uptoBulkAll a + Rows.uptoBulkAll b
  | [], b => by simp [Rows.uptoBulkAll]
  | d :: a, b => by
    rw [List.cons_append, Rows.uptoBulkAll, bulkAll_append a b, Rows.uptoBulkAll]
    omega
theorem rows_nil (hS : Shows T g0 W) (k : Nat) : RowsAt T [] (some ⟨g0, 0, none⟩) 0 k [] :=
  ⟨by simp, fun A hA => ⟨fun _ h => absurd h (Nat.not_lt_zero _), fun m c => by
    unfold AW.elems
    simp only [Nat.zero_mul]
    exact hS.1 A hA⟩⟩
/-- A slice, its elements opened as 'good' says. -/
theorem slice_arg (hS : Shows T g0 W) {t e fuel k : Nat} {v : Value} {x : DataW H × List MemPlace} (ht : PP.underlying t = some (.slice e)) (hc : PP.cellsOf e = k) (hk : 1 ≤ k) {α : Type} [Inhabited α] (good : List Value → DataW H → α → Prop)
    (hel : ∀ n cs y, DataW.trod enc PP W 0 (fun _ => true) true n e cs = some y → ∃ q : α, good cs y.1 q) (hgood : ∀ cs y q, good cs y q → (cs.map (absV g0 W)).all notHole = true)
    (h : DataW.trod enc PP W 0 (fun _ => true) true fuel t [v] = some x) :
    ∃ (d : SL) (cs : Nat → List Value) (D : Nat → DataW H) (q : Nat → α), absV g0 W v = .slice d.1 d.2.1 d.2.2 ∧ RowsAt T [] d.1 d.2.1 k ((List.range d.2.1).flatMap fun i => (cs i).map (absV g0 W)) ∧
      (∀ i, i < d.2.1 → good (cs i) (D i) (q i) ∧ ((((List.range d.2.1).flatMap fun i => (cs i).map (absV g0 W)).drop (i * k)).take k) = (cs i).map (absV g0 W)) ∧ Rows.uptoBulkAll ((List.range d.2.1).map D) ≤ Rows.uptoBulk x.1 := by
  rcases Go.Deep.open_slice ht h with ⟨hcs, rfl⟩ | ⟨a, len, cap, m, n, D, Pl, hcs, _, hl, hm, hmm, rfl, hx⟩
  · obtain rfl : v = .slice none 0 0 := by simpa using hcs
    exact ⟨(none, 0, 0), fun _ => [], fun _ => .nil, fun _ => default, rfl, .nil, fun i hi => absurd hi (Nat.not_lt_zero _), by simp [Rows.uptoBulkAll]⟩
  · obtain rfl : v = .slice (some a) len cap := by simpa using hcs
    simp only [if_true] at hmm
    subst hmm
    rw [hc] at hx
    by_cases hc0 : m = 0
    · subst hc0
      obtain rfl : len = 0 := by omega
      exact ⟨(some ⟨g0, 0, none⟩, 0, 0), fun _ => [], fun _ => .nil, fun _ => default, rfl, rows_nil hS k, fun i hi => absurd hi (Nat.not_lt_zero _), by simp [Rows.uptoBulkAll]⟩
    · obtain ⟨cs, hcs2⟩ := pick (show 1 ≤ m by omega) hx
      obtain ⟨q, hq⟩ := pick (p := fun i q => good (cs i) (D i) q) (show 1 ≤ m by omega) fun i hi => hel n (cs i) (D i, Pl i) (hcs2 i hi).2
      obtain ⟨hb, hR, hch⟩ := rows_arg (T := T) hS (n := len) (cap := m) (ch := cs) hk hl (by omega) (fun i hi => by
        obtain ⟨_, h2, h3⟩ := World.cells?_some (hcs2 i hi).1
        exact ⟨h2, h3⟩) (fun i hi => hgood _ _ _ (hq i (by omega)))
      refine ⟨(some a, len, m), cs, D, q, ?_, hR, fun i hi => ⟨hq i (by have : i < len := hi; omega), hch i hi⟩, ?_⟩
      · show absV g0 W (.slice (some a) len m) = _
        show (if len ≤ m then (if m = 0 then Value.slice (some ⟨g0, 0, none⟩) 0 0 else if a.block < W.heap.size then Value.slice (some a) len m else Value.tuple #[]) else Value.tuple #[]) = _
        rw [if_pos hl, if_neg hc0, if_pos hb]
      · show Rows.uptoBulkAll ((List.range len).map D) ≤ Rows.uptoBulk (.slice ((List.range len).map D) _)
        rw [Rows.uptoBulk]
        omega
theorem count_bulk : ∀ l : List (DataW H), l.length ≤ Rows.uptoBulkAll l
  | [] => Nat.zero_le _
  | d :: l => by
    have := count_bulk l
    have := bulk_pos d
    rw [Rows.uptoBulkAll, List.length_cons]
    omega
/-- What is weighed, element by element. -/
theorem weigh {α : Type} (w : α → Nat) {D : Nat → DataW H} {q : Nat → α} : ∀ n : Nat, (∀ i, i < n → w (q i) ≤ Rows.uptoBulk (D i)) → (((List.range n).map q).map w).sum ≤ Rows.uptoBulkAll ((List.range n).map D)
  | 0, _ => by simp
  | n + 1, h => by
    have ih := weigh w n fun i hi => h i (by omega)
    have h1 := h n (by omega)
    rw [List.range_succ, List.map_append, List.map_append, List.map_append, bulkAll_append, List.sum_append]
    simp only [List.map_cons, List.map_nil, List.sum_cons, List.sum_nil, Rows.uptoBulkAll]
    omega
theorem cell1 {t : Nat} {fuel : Nat} {k : IntKind} {v : Value} {y : DataW H × List MemPlace} (ht : PP.underlying t = some (.int k)) (h : DataW.trod enc PP W 0 (fun _ => true) true fuel t [v] = some y) : ∃ z, v = .int k z ∧ k.min ≤ z ∧ z ≤ k.max := by
  obtain ⟨z, h1, _, h3⟩ := DataW.trod_int ht h
  refine ⟨z, by simpa using h1, ?_⟩
  simp only [Lit.wf, Bool.and_eq_true, decide_eq_true_eq] at h3
  exact h3
theorem cellS {t : Nat} {fuel : Nat} {v : Value} {y : DataW H × List MemPlace} (ht : PP.underlying t = some .string) (h : DataW.trod enc PP W 0 (fun _ => true) true fuel t [v] = some y) : ∃ s : List UInt8, v = .string (BA s) ∧ s.length + 1 = Rows.uptoBulk y.1 := by
  obtain ⟨s, h1, rfl, _⟩ := DataW.trod_string ht h
  exact ⟨s.data.toList, by rw [← BA_of s]; simpa using h1, by simp [Rows.uptoBulk]⟩
theorem u8_cells (z : Nat → Int) : ∀ n : Nat, (∀ i, i < n → 0 ≤ z i ∧ z i < 256) → ((List.range n).flatMap fun i => ([.int .u8 (z i)] : List Value).map (absV g0 W)) = u8s ((List.range n).map fun i => UInt8.ofNat (z i).toNat)
  | 0, _ => rfl
  | n + 1, h => by
    rw [List.range_succ, List.flatMap_append, List.map_append, u8s_append, u8_cells z n fun i hi => h i (by omega)]
    congr 1
    obtain ⟨h1, h2⟩ := h n (by omega)
    simp only [List.flatMap_cons, List.flatMap_nil, List.map_cons, List.map_nil, List.append_nil, absV, u8s]
    congr 2
    rw [UInt8.toNat_ofNat', Nat.mod_eq_of_lt (by omega)]
    omega
/-- Bytes. -/
theorem bytes_arg (hS : Shows T g0 W) {fuel : Nat} {v : Value} {x : DataW H × List MemPlace} (h : DataW.trod enc PP W 0 (fun _ => true) true fuel 49 [v] = some x) :
    ∃ (d : SL) (bs : List UInt8), absV g0 W v = .slice d.1 d.2.1 d.2.2 ∧ SeesB T [] d.1 d.2.1 bs ∧ bs.length ≤ Rows.uptoBulk x.1 := by
  obtain ⟨d, cs, D, q, h1, h2, h3, h4⟩ := slice_arg (T := T) hS Tryz.underlying49 (k := 1) (by kernel_rfl) (Nat.le_refl _) (good := fun cs _ (z : Int) => cs = [.int .u8 z] ∧ 0 ≤ z ∧ z < 256) (fun n cs y hy => by
    obtain ⟨z, e1, _, e3⟩ := DataW.trod_int Tryz.underlying5 hy
    simp only [Lit.wf, Bool.and_eq_true, decide_eq_true_eq] at e3
    refine ⟨z, e1, ?_, ?_⟩
    · exact e3.1
    · exact Int.lt_of_le_of_lt e3.2 (by decide)) (fun cs y z hz => by rw [hz.1]; rfl) h
  obtain ⟨a, n, c⟩ := d
  simp only at h1 h2 h3 h4
  have e : ((List.range n).flatMap fun i => (cs i).map (absV g0 W)) = u8s ((List.range n).map fun i => UInt8.ofNat (q i).toNat) := by
    rw [← u8_cells (g0 := g0) (W := W) q n fun i hi => (h3 i hi).1.2, List.flatMap_def, List.flatMap_def]
    congr 1
    exact List.map_congr_left fun i hi => by rw [(h3 i (List.mem_range.1 hi)).1.1]
  rw [e] at h2
  refine ⟨(a, n, c), _, h1, seesB_rows h2, ?_⟩
  have := count_bulk ((List.range n).map D)
  rw [List.length_map] at this
  rw [List.length_map]
  omega
theorem fld {fs : Array Field} {n : Nat} {cs : List Value} {xs : List (DataW H × List MemPlace)} (hf : ∀ (i : Nat) (f : Field), fs[i]? = some f → DataW.trod enc PP W 0 (fun _ => true) true n f.type ((cs.drop f.offset).take (PP.cellsOf f.type)) = xs[i]?)
    (i : Nat) {f : Field} (hi : fs[i]? = some f) {t o c : Nat} (ht : f.type = t) (ho : f.offset = o) (hc : PP.cellsOf t = c) : DataW.trod enc PP W 0 (fun _ => true) true n t ((cs.drop o).take c) = xs[i]? := by
  subst ht ho
  rw [← hc]
  exact hf i f hi
instance : Inhabited Evt := ⟨⟨0, [], [], 0, 0, []⟩⟩
def wE (x : Evt) : Nat := x.p.length + x.q.length + x.data.length + 1
/-- An event's cells. -/
theorem evt_arg (hS : Shows T g0 W) {fuel : Nat} {cs : List Value} {x : DataW H × List MemPlace} (h : DataW.trod enc PP W 0 (fun _ => true) true fuel 51 cs = some x) :
    ∃ (e : Evt) (d : SL), cs.map (absV g0 W) = evtC e d ∧ SeesB T [] d.1 d.2.1 e.data ∧ Nums e ∧ wE e ≤ Rows.uptoBulk x.1 := by
  obtain ⟨xs, n, _, rfl, hlen, hxl, hf⟩ := DataW.trod_struct Tryz.underlying51 h
  rw [show PP.cellsOf 51 = 6 by kernel_rfl] at hlen
  have ci : PP.cellsOf 3 = 1 := by kernel_rfl
  have cst : PP.cellsOf 9 = 1 := by kernel_rfl
  have cb : PP.cellsOf 49 = 1 := by kernel_rfl
  obtain ⟨y0, y1, y2, y3, y4, y5, rfl⟩ := list6 hxl
  obtain ⟨v0, v1, v2, v3, v4, v5, rfl⟩ := list6 hlen
  have f0 := fld hf 0 rfl (t := 3) (o := 0) rfl rfl ci
  have f1 := fld hf 1 rfl (t := 9) (o := 1) rfl rfl cst
  have f2 := fld hf 2 rfl (t := 9) (o := 2) rfl rfl cst
  have f3 := fld hf 3 rfl (t := 3) (o := 3) rfl rfl ci
  have f4 := fld hf 4 rfl (t := 3) (o := 4) rfl rfl ci
  have f5 := fld hf 5 rfl (t := 49) (o := 5) rfl rfl cb
  obtain ⟨z0, rfl, _⟩ := cell1 Tryz.underlying3 f0
  obtain ⟨s1, rfl, w1⟩ := cellS Tryz.underlying9 f1
  obtain ⟨s2, rfl, w2⟩ := cellS Tryz.underlying9 f2
  obtain ⟨z3, rfl, r3⟩ := cell1 Tryz.underlying3 f3
  obtain ⟨z4, rfl, r4⟩ := cell1 Tryz.underlying3 f4
  obtain ⟨d, bs, e5, hsee, w5⟩ := bytes_arg (T := T) hS f5
  refine ⟨⟨z0, s1, s2, z3, z4, bs⟩, d, ?_, hsee, ⟨r3, r4⟩, ?_⟩
  · simp only [List.map_cons, List.map_nil, e5]
    rfl
  · have p0 := bulk_pos y0.1
    simp only [wE, List.map_cons, List.map_nil, Rows.uptoBulk, Rows.uptoBulkAll]
    omega
theorem evt_hole (e : Evt) (d : SL) : (evtC e d).all notHole = true := by
  obtain ⟨a, n, c⟩ := d
  rfl
theorem events_arg (hS : Shows T g0 W) {fuel : Nat} {v : Value} {x : DataW H × List MemPlace} (h : DataW.trod enc PP W 0 (fun _ => true) true fuel 22 [v] = some x) :
    ∃ (d : SL) (xs : List Evt) (L : List Value), absV g0 W v = .slice d.1 d.2.1 d.2.2 ∧ d.2.1 = xs.length ∧ RowsAt T [] d.1 xs.length 6 L ∧ AllAt (EvtAt T []) 6 L xs ∧ (∀ e ∈ xs, Nums e) ∧ (xs.map wE).sum ≤ Rows.uptoBulk x.1 := by
  obtain ⟨d, cs, D, q, h1, h2, h3, h4⟩ := slice_arg (T := T) hS Tryz.underlying22 (k := 6) (by kernel_rfl) (by decide) (good := fun cs y (e : Evt) => ∃ d : SL, cs.map (absV g0 W) = evtC e d ∧ SeesB T [] d.1 d.2.1 e.data ∧ Nums e ∧ wE e ≤ Rows.uptoBulk y) (fun n cs y hy => evt_arg hS hy)
    (fun cs y e ⟨d, hd, _⟩ => by rw [hd]; exact evt_hole e d) h
  obtain ⟨a, n, c⟩ := d
  simp only at h1 h2 h3 h4
  have hl : ((List.range n).map q).length = n := by rw [List.length_map, List.length_range]
  refine ⟨(a, n, c), (List.range n).map q, _, h1, hl.symm, by rw [hl]; exact h2, ⟨by rw [hl]; exact h2.1, fun i hi => ?_⟩, fun e he => ?_, Nat.le_trans (weigh wE n fun i hi => ?_) h4⟩
  · rw [hl] at hi
    obtain ⟨⟨d, k1, k2, _⟩, k3⟩ := h3 i hi
    rw [k3, k1]
    have e0 : ((List.range n).map q)[i]'(by rw [hl]; exact hi) = q i := by simp
    rw [e0]
    exact ⟨d, rfl, k2⟩
  · obtain ⟨i, hi, rfl⟩ := List.mem_map.1 he
    obtain ⟨⟨d, _, _, k3, _⟩, _⟩ := h3 i (List.mem_range.1 hi)
    exact k3
  · obtain ⟨⟨d, _, _, _, k4⟩, _⟩ := h3 i hi
    exact k4
end
end Go.Proofs.YtlcigkdflbfdgaaGreatDoor.sf
namespace Go.Proofs.YtlcigkdflbfdgaaGreatDoor.sf
set_option linter.unusedVariables false
open Go Go.Eng Go.Sh
theorem catV_sum {α : Type} (f : α → List UInt8) (w : α → Nat) (K : Nat) : ∀ xs : List α, (∀ x ∈ xs, (f x).length + 1 ≤ K * w x) → (catV f xs).length ≤ K * (xs.map w).sum
  | [], _ => by simp [catV]
  | x :: xs, h => by
    have ih := catV_sum f w K xs fun y hy => h y (.tail _ hy)
    have h1 := h x (.head _)
    have e : catV f (x :: xs) = (f x ++ [10]) ++ catV f xs := by simp [catV]
    rw [e, List.length_append, List.length_append, List.map_cons, List.sum_cons, Nat.mul_add]
    simp only [List.length_cons, List.length_nil]
    omega
theorem lineV_len {x : Evt} (hn : Nums x) : (lineV x).length + 1 ≤ 64 * wE x := by
  have w1 := word_le x.p
  have w2 := word_le x.q
  have w3 := word_le x.data
  have i1 := itoa_len hn.1
  have i2 := itoa_len hn.2
  have n1 := nameV_len x.kind
  have p1 := putV_len (shapeV x.kind).1 (nameV x.kind) (word x.p)
  have p2 := putV_len (shapeV x.kind).2.1 (putV (shapeV x.kind).1 (nameV x.kind) (word x.p)) (word x.q)
  have p3 := putV_len (shapeV x.kind).2.2.1 (putV (shapeV x.kind).2.1 (putV (shapeV x.kind).1 (nameV x.kind) (word x.p)) (word x.q)) (Lib.itoa x.a)
  have p4 := putV_len (shapeV x.kind).2.2.2.1 (putV (shapeV x.kind).2.2.1 (putV (shapeV x.kind).2.1 (putV (shapeV x.kind).1 (nameV x.kind) (word x.p)) (word x.q)) (Lib.itoa x.a)) (Lib.itoa x.b)
  have p5 := putV_len (shapeV x.kind).2.2.2.2 (putV (shapeV x.kind).2.2.2.1 (putV (shapeV x.kind).2.2.1 (putV (shapeV x.kind).2.1 (putV (shapeV x.kind).1 (nameV x.kind) (word x.p)) (word x.q)) (Lib.itoa x.a)) (Lib.itoa x.b)) (word x.data)
  unfold lineV wE
  omega
theorem sum_mem {α : Type} (w : α → Nat) : ∀ {xs : List α} {x : α}, x ∈ xs → w x ≤ (xs.map w).sum
  | y :: xs, x, h => by
    rw [List.map_cons, List.sum_cons]
    rcases List.mem_cons.1 h with rfl | h
    · omega
    · have := sum_mem w h; omega
theorem count_sum {α : Type} (w : α → Nat) (h : ∀ x, 1 ≤ w x) : ∀ xs : List α, xs.length ≤ (xs.map w).sum
  | [] => Nat.zero_le _
  | x :: xs => by
    have := count_sum w h xs
    have := h x
    rw [List.map_cons, List.sum_cons, List.length_cons]
    omega
/-- A list of events of bounded weight. -/
structure FewE (xs : List Evt) : Prop where
  nums : ∀ x ∈ xs, Nums x
  sum : (xs.map wE).sum ≤ 1048576
theorem FewE.small {xs : List Evt} (h : FewE xs) : ∀ x ∈ xs, SmallE x := fun x hx => by
  have := sum_mem wE hx
  have := h.sum
  unfold wE at *
  exact ⟨by omega, by omega, by omega, h.nums x hx⟩
theorem FewE.count {xs : List Evt} (h : FewE xs) : xs.length < 2 ^ 36 := by
  have := count_sum wE (fun x => by unfold wE; omega) xs
  have := h.sum
  omega
theorem FewE.text {xs : List Evt} (h : FewE xs) : (catV lineV xs).length < 2 ^ 38 := by
  have := catV_sum lineV wE 64 xs fun x hx => lineV_len (h.nums x hx)
  have := h.sum
  omega
end Go.Proofs.YtlcigkdflbfdgaaGreatDoor.sf
