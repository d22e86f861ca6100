/-
 Walks: WX, WY.
-/
import Derived.Test.YtlcigkdflbfdgaaGreatDoorSgWV
import Derived.Test.YtlcigkdflbfdgaaGreatDoorEng31
import Derived.Test.YtlcigkdflbfdgaaGreatDoorRows
namespace Go.Proofs.YtlcigkdflbfdgaaGreatDoor.sg
set_option linter.unusedVariables false
open Go Go.Eng Go.Sh Go.RowKit Go.ChangeShapes Go.WideShapes
section
variable {H : Type} {enc : TypeId × Value → H} {W : World} {T : Tabs} {g0 : Nat}
theorem pick {α : Type} {p : Nat → α → Prop} {n : Nat} (h1 : 1 ≤ n) (h : ∀ i, i < n → ∃ q, p i q) : ∃ f : Nat → α, ∀ i, i < n → p i (f i) := by
 refine ⟨fun i => if hi : i < n then Classical.choose (h i hi) else Classical.choose (h 0 (by omega)), fun i hi => ?_⟩
 simp only [dif_pos hi]
 exact Classical.choose_spec (h i hi)
theorem list2 {α : Type} {l : List α} (h : l.length = 2) : ∃ a b, l = [a, b] := by
 match l, h with
 | [a, b], _ => exact ⟨a, b, rfl⟩
theorem list4 {α : Type} {l : List α} (h : l.length = 4) : ∃ a b c d, l = [a, b, c, d] := by
 match l, h with
 | [a, b, c, d], _ => exact ⟨a, b, c, d, rfl⟩
theorem list6 {α : Type} {l : List α} (h : l.length = 6) : ∃ a b c d e f, l = [a, b, c, d, e, f] := by
 match l, h with
 | [a, b, c, d, e, f], _ => exact ⟨a, b, c, d, e, f, rfl⟩
theorem list9 {α : Type} {l : List α} (h : l.length = 9) : ∃ a b c d e f g i j, l = [a, b, c, d, e, f, g, i, j] := by
 match l, h with
 | [a, b, c, d, e, f, g, i, j], _ => exact ⟨a, b, c, d, e, f, g, i, j, rfl⟩
theorem bulk_pos (d : DataW H) : 1 ≤ Rows.uptoBulk d := by
 cases d with
 | lit l => cases l <;> simp [Rows.uptoBulk]
 | _ => simp [Rows.uptoBulk]
theorem bulkAll_append : ∀ a b : List (DataW H), Rows.uptoBulkAll (a ++ b) = Rows.uptoBulkAll a + Rows.uptoBulkAll b
 | [], b => by simp [Rows.uptoBulkAll]
 | d :: a, b => by
  rw [List.cons_append, Rows.uptoBulkAll, bulkAll_append a b, Rows.uptoBulkAll]
  omega
theorem rows_nil (hS : Shows T g0 W) (k : Nat) : RowsAt T [] (some ⟨g0, 0, none⟩) 0 k [] :=
 ⟨by simp, fun A hA => ⟨fun _ h => absurd h (Nat.not_lt_zero _), fun m c => by
  unfold AW.elems
  simp only [Nat.zero_mul]
  exact hS.1 A hA⟩⟩
/-- A slice, its elements opened as 'good' says. -/
theorem slice_arg (hS : Shows T g0 W) {t e fuel k : Nat} {v : Value} {x : DataW H × List MemPlace} (ht : PP.underlying t = some (.slice e)) (hc : PP.cellsOf e = k) (hk : 1 ≤ k) {α : Type} [Inhabited α] (good : List Value → DataW H → α → Prop)
  (hel : ∀ n cs y, DataW.trod enc PP W 0 (fun _ => true) true n e cs = some y → ∃ q : α, good cs y.1 q) (hgood : ∀ cs y q, good cs y q → (cs.map (absV g0 W)).all notHole = true)
  (h : DataW.trod enc PP W 0 (fun _ => true) true fuel t [v] = some x) :
  ∃ (d : SL) (cs : Nat → List Value) (D : Nat → DataW H) (q : Nat → α), absV g0 W v = .slice d.1 d.2.1 d.2.2 ∧ RowsAt T [] d.1 d.2.1 k ((List.range d.2.1).flatMap fun i => (cs i).map (absV g0 W)) ∧
   (∀ i, i < d.2.1 → good (cs i) (D i) (q i) ∧ ((((List.range d.2.1).flatMap fun i => (cs i).map (absV g0 W)).drop (i * k)).take k) = (cs i).map (absV g0 W)) ∧ Rows.uptoBulkAll ((List.range d.2.1).map D) ≤ Rows.uptoBulk x.1 := by
 rcases Go.Deep.open_slice ht h with ⟨hcs, rfl⟩ | ⟨a, len, cap, m, n, D, Pl, hcs, _, hl, hm, hmm, rfl, hx⟩
 ·obtain rfl : v = .slice none 0 0 := by simpa using hcs
  exact ⟨(none, 0, 0), fun _ => [], fun _ => .nil, fun _ => default, rfl, .nil, fun i hi => absurd hi (Nat.not_lt_zero _), by simp [Rows.uptoBulkAll]⟩
 ·obtain rfl : v = .slice (some a) len cap := by simpa using hcs
  simp only [if_true] at hmm
  subst hmm
  rw [hc] at hx
  by_cases hc0 : m = 0
  ·subst hc0
   obtain rfl : len = 0 := by omega
   exact ⟨(some ⟨g0, 0, none⟩, 0, 0), fun _ => [], fun _ => .nil, fun _ => default, rfl, rows_nil hS k, fun i hi => absurd hi (Nat.not_lt_zero _), by simp [Rows.uptoBulkAll]⟩
  ·obtain ⟨cs, hcs2⟩ := pick (show 1 ≤ m by omega) hx
   obtain ⟨q, hq⟩ := pick (p := fun i q => good (cs i) (D i) q) (show 1 ≤ m by omega) fun i hi => hel n (cs i) (D i, Pl i) (hcs2 i hi).2
   obtain ⟨hb, hR, hch⟩ := rows_arg (T := T) hS (n := len) (cap := m) (ch := cs) hk hl (by omega) (fun i hi => by
    obtain ⟨_, h2, h3⟩ := World.cells?_some (hcs2 i hi).1
    exact ⟨h2, h3⟩) (fun i hi => hgood _ _ _ (hq i (by omega)))
   refine ⟨(some a, len, m), cs, D, q, ?_, hR, fun i hi => ⟨hq i (by have : i < len := hi; omega), hch i hi⟩, ?_⟩
   ·show absV g0 W (.slice (some a) len m) = _
    show (if len ≤ m then (if m = 0 then Value.slice (some ⟨g0, 0, none⟩) 0 0 else if a.block < W.heap.size then Value.slice (some a) len m else Value.tuple #[]) else Value.tuple #[]) = _
    rw [if_pos hl, if_neg hc0, if_pos hb]
   ·show Rows.uptoBulkAll ((List.range len).map D) ≤ Rows.uptoBulk (.slice ((List.range len).map D) _)
    rw [Rows.uptoBulk]
    omega
theorem count_bulk : ∀ l : List (DataW H), l.length ≤ Rows.uptoBulkAll l
 | [] => Nat.zero_le _
 | d :: l => by
  have := count_bulk l
  have := bulk_pos d
  rw [Rows.uptoBulkAll, List.length_cons]
  omega
/-- What is weighed, element by element. -/
theorem weigh {α : Type} (w : α → Nat) {D : Nat → DataW H} {q : Nat → α} : ∀ n : Nat, (∀ i, i < n → w (q i) ≤ Rows.uptoBulk (D i)) → (((List.range n).map q).map w).sum ≤ Rows.uptoBulkAll ((List.range n).map D)
 | 0, _ => by simp
 | n + 1, h => by
  have ih := weigh w n fun i hi => h i (by omega)
  have h1 := h n (by omega)
  rw [List.range_succ, List.map_append, List.map_append, List.map_append, bulkAll_append, List.sum_append]
  simp only [List.map_cons, List.map_nil, List.sum_cons, List.sum_nil, Rows.uptoBulkAll]
  omega
theorem cell1 {t : Nat} {fuel : Nat} {k : IntKind} {v : Value} {y : DataW H × List MemPlace} (ht : PP.underlying t = some (.int k)) (h : DataW.trod enc PP W 0 (fun _ => true) true fuel t [v] = some y) : ∃ z, v = .int k z ∧ k.min ≤ z ∧ z ≤ k.max := by
 obtain ⟨z, h1, _, h3⟩ := DataW.trod_int ht h
 refine ⟨z, by simpa using h1, ?_⟩
 simp only [Lit.wf, Bool.and_eq_true, decide_eq_true_eq] at h3
 exact h3
theorem cellS {t : Nat} {fuel : Nat} {v : Value} {y : DataW H × List MemPlace} (ht : PP.underlying t = some .string) (h : DataW.trod enc PP W 0 (fun _ => true) true fuel t [v] = some y) : ∃ s : List UInt8, v = .string (BA s) ∧ s.length + 1 = Rows.uptoBulk y.1 := by
 obtain ⟨s, h1, rfl, _⟩ := DataW.trod_string ht h
 exact ⟨s.data.toList, by rw [← BA_of s]; simpa using h1, by simp [Rows.uptoBulk]⟩
theorem u8_cells (z : Nat → Int) : ∀ n : Nat, (∀ i, i < n → 0 ≤ z i ∧ z i < 256) → ((List.range n).flatMap fun i => ([.int .u8 (z i)] : List Value).map (absV g0 W)) = u8s ((List.range n).map fun i => UInt8.ofNat (z i).toNat)
 | 0, _ => rfl
 | n + 1, h => by
  rw [List.range_succ, List.flatMap_append, List.map_append, u8s_append, u8_cells z n fun i hi => h i (by omega)]
  congr 1
  obtain ⟨h1, h2⟩ := h n (by omega)
  simp only [List.flatMap_cons, List.flatMap_nil, List.map_cons, List.map_nil, List.append_nil, absV, u8s]
  congr 2
  rw [UInt8.toNat_ofNat', Nat.mod_eq_of_lt (by omega)]
  omega
/-- Bytes. -/
theorem bytes_arg (hS : Shows T g0 W) {fuel : Nat} {v : Value} {x : DataW H × List MemPlace} (h : DataW.trod enc PP W 0 (fun _ => true) true fuel 49 [v] = some x) :
  ∃ (d : SL) (bs : List UInt8), absV g0 W v = .slice d.1 d.2.1 d.2.2 ∧ SeesB T [] d.1 d.2.1 bs ∧ bs.length ≤ Rows.uptoBulk x.1 := by
 obtain ⟨d, cs, D, q, h1, h2, h3, h4⟩ := slice_arg (T := T) hS Tryz.underlying49 (k := 1) (by kernel_rfl) (Nat.le_refl _) (good := fun cs _ (z : Int) => cs = [.int .u8 z] ∧ 0 ≤ z ∧ z < 256) (fun n cs y hy => by
  obtain ⟨z, e1, _, e3⟩ := DataW.trod_int Tryz.underlying5 hy
  simp only [Lit.wf, Bool.and_eq_true, decide_eq_true_eq] at e3
  refine ⟨z, e1, ?_, ?_⟩
  ·exact e3.1
  ·exact Int.lt_of_le_of_lt e3.2 (by decide)) (fun cs y z hz => by rw [hz.1]; rfl) h
 obtain ⟨a, n, c⟩ := d
 simp only at h1 h2 h3 h4
 have e : ((List.range n).flatMap fun i => (cs i).map (absV g0 W)) = u8s ((List.range n).map fun i => UInt8.ofNat (q i).toNat) := by
  rw [← u8_cells (g0 := g0) (W := W) q n fun i hi => (h3 i hi).1.2, List.flatMap_def, List.flatMap_def]
  congr 1
  exact List.map_congr_left fun i hi => by rw [(h3 i (List.mem_range.1 hi)).1.1]
 rw [e] at h2
 refine ⟨(a, n, c), _, h1, seesB_rows h2, ?_⟩
 have := count_bulk ((List.range n).map D)
 rw [List.length_map] at this
 rw [List.length_map]
 omega
theorem fld {fs : Array Field} {n : Nat} {cs : List Value} {xs : List (DataW H × List MemPlace)} (hf : ∀ (i : Nat) (f : Field), fs[i]? = some f → DataW.trod enc PP W 0 (fun _ => true) true n f.type ((cs.drop f.offset).take (PP.cellsOf f.type)) = xs[i]?)
  (i : Nat) {f : Field} (hi : fs[i]? = some f) {t o c : Nat} (ht : f.type = t) (ho : f.offset = o) (hc : PP.cellsOf t = c) : DataW.trod enc PP W 0 (fun _ => true) true n t ((cs.drop o).take c) = xs[i]? := by
 subst ht ho
 rw [← hc]
 exact hf i f hi
instance : Inhabited Evt := ⟨⟨0, [], [], 0, 0, []⟩⟩
instance : Inhabited Rw := ⟨row0 0⟩
def wE (x : Evt) : Nat := x.p.length + x.q.length + x.data.length + 1
theorem ents_cells (q : Nat → Int × List UInt8) : ∀ n : Nat, ((List.range n).flatMap fun i => ([.int .i64 (q i).1, .string (BA (q i).2)] : List Value).map (absV g0 W)) = entC ((List.range n).map q)
 | 0 => rfl
 | n + 1 => by
  rw [List.range_succ, List.flatMap_append, List.map_append, entC_append, ents_cells q n]
  rfl
/-- Entries. -/
theorem ents_arg (hS : Shows T g0 W) {fuel : Nat} {v : Value} {x : DataW H × List MemPlace} (h : DataW.trod enc PP W 0 (fun _ => true) true fuel 67 [v] = some x) :
  ∃ (d : SL) (S : List (Int × List UInt8)), absV g0 W v = .slice d.1 d.2.1 d.2.2 ∧ RowsAt T [] d.1 d.2.1 2 (entC S) ∧ d.2.1 = S.length ∧ (∀ p ∈ S, -9223372036854775808 ≤ p.1 ∧ p.1 ≤ 9223372036854775807) ∧ (S.map fun p => p.2.length + 1).sum ≤ Rows.uptoBulk x.1 := by
 obtain ⟨d, cs, D, q, h1, h2, h3, h4⟩ := slice_arg (T := T) hS Tryz.underlying67 (k := 2) (by kernel_rfl) (by decide)
  (good := fun cs y (p : Int × List UInt8) => cs = [.int .i64 p.1, .string (BA p.2)] ∧ (-9223372036854775808 ≤ p.1 ∧ p.1 ≤ 9223372036854775807) ∧ p.2.length + 1 ≤ Rows.uptoBulk y) (fun n cs y hy => by
  obtain ⟨xs, n, _, rfl, hlen, hxl, hf⟩ := DataW.trod_struct Tryz.underlying71 hy
  rw [show PP.cellsOf 71 = 2 by kernel_rfl] at hlen
  have ci : PP.cellsOf 3 = 1 := by kernel_rfl
  have cst : PP.cellsOf 9 = 1 := by kernel_rfl
  obtain ⟨y0, y1, rfl⟩ := list2 hxl
  obtain ⟨v0, v1, rfl⟩ := list2 hlen
  have f0 := fld hf 0 rfl (t := 3) (o := 0) rfl rfl ci
  have f1 := fld hf 1 rfl (t := 9) (o := 1) rfl rfl cst
  obtain ⟨z0, rfl, r0⟩ := cell1 Tryz.underlying3 f0
  obtain ⟨s1, rfl, w1⟩ := cellS Tryz.underlying9 f1
  refine ⟨(z0, s1), rfl, r0, ?_⟩
  simp only [List.map_cons, List.map_nil, Rows.uptoBulk, Rows.uptoBulkAll]
  omega) (fun cs y z hz => by rw [hz.1]; rfl) h
 obtain ⟨a, n, c⟩ := d
 simp only at h1 h2 h3 h4
 have e : ((List.range n).flatMap fun i => (cs i).map (absV g0 W)) = entC ((List.range n).map q) := by
  rw [← ents_cells (g0 := g0) (W := W) q n, List.flatMap_def, List.flatMap_def]
  congr 1
  exact List.map_congr_left fun i hi => by rw [(h3 i (List.mem_range.1 hi)).1.1]
 rw [e] at h2
 refine ⟨(a, n, c), _, h1, h2, by rw [List.length_map, List.length_range], fun p hp => ?_, Nat.le_trans (weigh (fun p : Int × List UInt8 => p.2.length + 1) n fun i hi => (h3 i hi).1.2.2) h4⟩
 obtain ⟨i, hi, rfl⟩ := List.mem_map.1 hp
 exact (h3 i (List.mem_range.1 hi)).1.2.1
def wR (x : Rw) : Nat := x.data.length + (x.ents.map fun p => p.2.length + 1).sum + 1
theorem rw_hole (x : Rw) (d e : SL) : (rwC x d e).all notHole = true := by
 obtain ⟨a, n, c⟩ := d
 obtain ⟨a', n', c'⟩ := e
 rfl
/-- A row's cells. -/
theorem rw_arg (hS : Shows T g0 W) {fuel : Nat} {cs : List Value} {x : DataW H × List MemPlace} (h : DataW.trod enc PP W 0 (fun _ => true) true fuel 69 cs = some x) :
  ∃ (r : Rw) (d e : SL), cs.map (absV g0 W) = rwC r d e ∧ (SeesB T [] d.1 d.2.1 r.data ∧ RowsAt T [] e.1 e.2.1 2 (entC r.ents) ∧ e.2.1 = r.ents.length) ∧ NumsR r ∧ wR r ≤ Rows.uptoBulk x.1 := by
 obtain ⟨xs, n, _, rfl, hlen, hxl, hf⟩ := DataW.trod_struct Tryz.underlying69 h
 rw [show PP.cellsOf 69 = 9 by kernel_rfl] at hlen
 have ci : PP.cellsOf 3 = 1 := by kernel_rfl
 have ce : PP.cellsOf 23 = 1 := by kernel_rfl
 have cbo : PP.cellsOf 4 = 1 := by kernel_rfl
 have cb : PP.cellsOf 49 = 1 := by kernel_rfl
 have cs4 : PP.cellsOf 66 = 4 := by kernel_rfl
 have cen : PP.cellsOf 67 = 1 := by kernel_rfl
 obtain ⟨y0, y1, y2, y3, y4, y5, rfl⟩ := list6 hxl
 obtain ⟨v0, v1, v2, v3, v4, v5, v6, v7, v8, rfl⟩ := list9 hlen
 have f0 := fld hf 0 rfl (t := 3) (o := 0) rfl rfl ci
 have f1 := fld hf 1 rfl (t := 23) (o := 1) rfl rfl ce
 have f2 := fld hf 2 rfl (t := 4) (o := 2) rfl rfl cbo
 have f3 := fld hf 3 rfl (t := 49) (o := 3) rfl rfl cb
 have f4 := fld hf 4 rfl (t := 66) (o := 4) rfl rfl cs4
 have f5 := fld hf 5 rfl (t := 67) (o := 8) rfl rfl cen
 obtain ⟨z0, rfl, _⟩ := cell1 Tryz.underlying3 f0
 obtain ⟨z1, rfl, r1⟩ := cell1 Tryz.underlying23 f1
 obtain ⟨b2, e2, _⟩ := DataW.trod_bool Tryz.underlying4 f2
 obtain rfl : v2 = .bool b2 := by simpa using e2
 obtain ⟨d, bs, e3, hsee, w3⟩ := bytes_arg (T := T) hS f3
 obtain ⟨ent, S, e8, hro, hn8, r8, w8⟩ := ents_arg (T := T) hS f5
 obtain ⟨xs4, n4, _, rfl, _, hxl4, hf4⟩ := DataW.trod_struct Tryz.underlying66 f4
 obtain ⟨q0, q1, q2, q3, rfl⟩ := list4 hxl4
 have g0' := fld hf4 0 rfl (t := 3) (o := 0) rfl rfl ci
 have g1' := fld hf4 1 rfl (t := 3) (o := 1) rfl rfl ci
 have g2' := fld hf4 2 rfl (t := 3) (o := 2) rfl rfl ci
 have g3' := fld hf4 3 rfl (t := 3) (o := 3) rfl rfl ci
 obtain ⟨s0, rfl, u0⟩ := cell1 Tryz.underlying3 g0'
 obtain ⟨s1, rfl, u1⟩ := cell1 Tryz.underlying3 g1'
 obtain ⟨s2, rfl, u2⟩ := cell1 Tryz.underlying3 g2'
 obtain ⟨s3, rfl, u3⟩ := cell1 Tryz.underlying3 g3'
 refine ⟨⟨z0, z1, b2, bs, s0, s1, s2, s3, S⟩, d, ent, ?_, ⟨hsee, hro, hn8⟩, ⟨r1, fun m hm => ?_, r8⟩, ?_⟩
 ·simp only [List.map_cons, List.map_nil, e3, e8]
  rfl
 ·simp only [statL, List.mem_cons, List.not_mem_nil, or_false] at hm
  rcases hm with rfl | rfl | rfl | rfl
  ·exact u0
  ·exact u1
  ·exact u2
  ·exact u3
 ·simp only [wR, List.map_cons, List.map_nil, Rows.uptoBulk, Rows.uptoBulkAll] at w3 w8 ⊢
  omega
theorem rowlist_arg (hS : Shows T g0 W) {fuel : Nat} {v : Value} {x : DataW H × List MemPlace} (h : DataW.trod enc PP W 0 (fun _ => true) true fuel 37 [v] = some x) :
  ∃ (d : SL) (xs : List Rw) (L : List Value), absV g0 W v = .slice d.1 d.2.1 d.2.2 ∧ d.2.1 = xs.length ∧ RowsAt T [] d.1 xs.length 9 L ∧ AllAt (RwAt T []) 9 L xs ∧ (∀ r ∈ xs, NumsR r) ∧ (xs.map wR).sum ≤ Rows.uptoBulk x.1 := by
 obtain ⟨d, cs, D, q, h1, h2, h3, h4⟩ := slice_arg (T := T) hS Tryz.underlying37 (k := 9) (by kernel_rfl) (by decide)
  (good := fun cs y (r : Rw) => ∃ d e : SL, cs.map (absV g0 W) = rwC r d e ∧ (SeesB T [] d.1 d.2.1 r.data ∧ RowsAt T [] e.1 e.2.1 2 (entC r.ents) ∧ e.2.1 = r.ents.length) ∧ NumsR r ∧ wR r ≤ Rows.uptoBulk y) (fun n cs y hy => rw_arg hS hy)
  (fun cs y r ⟨d, e, hd, _⟩ => by rw [hd]; exact rw_hole r d e) h
 obtain ⟨a, n, c⟩ := d
 simp only at h1 h2 h3 h4
 have hl : ((List.range n).map q).length = n := by rw [List.length_map, List.length_range]
 refine ⟨(a, n, c), (List.range n).map q, _, h1, hl.symm, by rw [hl]; exact h2, ⟨by rw [hl]; exact h2.1, fun i hi => ?_⟩, fun e he => ?_, Nat.le_trans (weigh wR n fun i hi => ?_) h4⟩
 ·rw [hl] at hi
  obtain ⟨⟨d, e, k1, ⟨k2, k4, k5⟩, _⟩, k3⟩ := h3 i hi
  rw [k3, k1]
  have e0 : ((List.range n).map q)[i]'(by rw [hl]; exact hi) = q i := by simp
  rw [e0]
  exact ⟨d, e, rfl, k2, k4, k5⟩
 ·obtain ⟨i, hi, rfl⟩ := List.mem_map.1 he
  obtain ⟨⟨d, e, _, _, k3, _⟩, _⟩ := h3 i (List.mem_range.1 hi)
  exact k3
 ·obtain ⟨⟨d, e, _, _, _, k4⟩, _⟩ := h3 i hi
  exact k4
end
end Go.Proofs.YtlcigkdflbfdgaaGreatDoor.sg
namespace Go.Proofs.YtlcigkdflbfdgaaGreatDoor.sg
set_option linter.unusedVariables false
open Go Go.Eng Go.Sh
theorem catV_sum {α : Type} (f : α → List UInt8) (w : α → Nat) (K : Nat) : ∀ xs : List α, (∀ x ∈ xs, (f x).length + 1 ≤ K * w x) → (catV f xs).length ≤ K * (xs.map w).sum
 | [], _ => by simp [catV]
 | x :: xs, h => by
  have ih := catV_sum f w K xs fun y hy => h y (.tail _ hy)
  have h1 := h x (.head _)
  have e : catV f (x :: xs) = (f x ++ [10]) ++ catV f xs := by simp [catV]
  rw [e, List.length_append, List.length_append, List.map_cons, List.sum_cons, Nat.mul_add]
  simp only [List.length_cons, List.length_nil]
  omega
theorem entsT_sum : ∀ L : List (Int × List UInt8), (∀ p ∈ L, -9223372036854775808 ≤ p.1 ∧ p.1 ≤ 9223372036854775807) → (entsT L).length ≤ 25 * (L.map fun p => p.2.length + 1).sum
 | [], _ => by simp [entsT]
 | p :: t, h => by
  have ih := entsT_sum t fun q hq => h q (.tail _ hq)
  have w := word_le p.2
  have i := itoa_len (h p (.head _))
  have e : entsT (p :: t) = entT p ++ entsT t := by simp [entsT]
  have e2 : (entT p).length = 1 + (Lib.itoa p.1).length + 1 + (word p.2).length := by simp [entT]; omega
  rw [e, List.length_append, List.map_cons, List.sum_cons]
  omega
theorem statT_len {x : Rw} (h : ∀ n ∈ statL x, -9223372036854775808 ≤ n ∧ n ≤ 9223372036854775807) : (statT (statL x)).length ≤ 88 := by
 have a1 := itoa_len (h x.s1 (by simp [statL]))
 have a2 := itoa_len (h x.s2 (by simp [statL]))
 have a3 := itoa_len (h x.s3 (by simp [statL]))
 have a4 := itoa_len (h x.s4 (by simp [statL]))
 simp only [statT, statL, List.flatMap_cons, List.flatMap_nil, List.length_append, List.length_cons, List.length_nil]
 omega
theorem rlV_len {x : Rw} (hn : NumsR x) : (rlV x).length + 1 ≤ 128 * wR x := by
 have n1 := nameV_len x.kind
 have i1 := itoa_len hn.err
 have w1 := word_le x.data
 have w2 := statT_len hn.stat
 have w3 := entsT_sum x.ents hn.ino
 have ht : (tailV x).length ≤ 4 * x.data.length + 92 + 25 * (x.ents.map fun p => p.2.length + 1).sum := by
  unfold tailV
  split
  ·rw [List.length_append]; simp only [List.length_cons, List.length_nil]; omega
  split
  ·omega
  split
  ·omega
  split
  ·split <;> simp only [List.length_cons, List.length_nil] <;> omega
  ·simp only [List.length_nil]; omega
 unfold rlV wR
 split
 ·rw [List.length_append, List.length_append]; simp only [List.length_cons, List.length_nil]; omega
 ·rw [List.length_append, List.length_append]; simp only [List.length_cons, List.length_nil]; omega
theorem sum_mem {α : Type} (w : α → Nat) : ∀ {xs : List α} {x : α}, x ∈ xs → w x ≤ (xs.map w).sum
 | y :: xs, x, h => by
  rw [List.map_cons, List.sum_cons]
  rcases List.mem_cons.1 h with rfl | h
  ·omega
  ·have := sum_mem w h; omega
theorem count_sum {α : Type} (w : α → Nat) (h : ∀ x, 1 ≤ w x) : ∀ xs : List α, xs.length ≤ (xs.map w).sum
 | [] => Nat.zero_le _
 | x :: xs => by
  have := count_sum w h xs
  have := h x
  rw [List.map_cons, List.sum_cons, List.length_cons]
  omega
/-- A list of events of bounded weight. -/
structure FewE (xs : List Evt) : Prop where
 nums : ∀ x ∈ xs, Nums x
 sum : (xs.map wE).sum ≤ 1048576
/-- A list of rows of bounded weight. -/
structure FewR (xs : List Rw) : Prop where
 nums : ∀ x ∈ xs, NumsR x
 sum : (xs.map wR).sum ≤ 1048576
theorem FewR.small {xs : List Rw} (h : FewR xs) : ∀ x ∈ xs, Small x := fun x hx => by
 have h1 := sum_mem wR hx
 have h2 := h.sum
 have hn := h.nums x hx
 have h3 : x.data.length + (x.ents.map fun p => p.2.length + 1).sum + 1 ≤ 1048576 := by have e : wR x = x.data.length + (x.ents.map fun p => p.2.length + 1).sum + 1 := rfl; omega
 have h4 := count_sum (fun p : Int × List UInt8 => p.2.length + 1) (fun _ => by omega) x.ents
 exact small_mk x 1048576 (Nat.le_refl _) hn.err hn.stat (by omega) (by omega) fun p hp => by
  have := sum_mem (fun p : Int × List UInt8 => p.2.length + 1) hp
  have hi := hn.ino p hp
  exact ⟨by omega, hi⟩
theorem FewR.count {xs : List Rw} (h : FewR xs) : xs.length < 2 ^ 36 := by
 have := count_sum wR (fun x => by unfold wR; omega) xs
 have := h.sum
 omega
theorem FewR.text {xs : List Rw} (h : FewR xs) : (catV rlV xs).length < 2 ^ 38 := by
 have := catV_sum rlV wR 128 xs fun x hx => rlV_len (h.nums x hx)
 have := h.sum
 omega
end Go.Proofs.YtlcigkdflbfdgaaGreatDoor.sg
