/-
 The engine, part 31: what a function of the program comes to over an abstract heap; each part is proved against the model.
-/
import Derived.Test.YtlcigkdflbfdgaaGreatDoorEng30
import Derived.Deep.Slices
import Derived.Deep.DeepHandedRow
namespace Go.Eng
open Go Go.RowKit
def keepOs (K : List Nat) (os : List (Nat × AObj)) : List (Nat × AObj) := os.filter fun x => K.contains x.1
theorem lk_keep' (K : List Nat) (b : Nat) : ∀ os : List (Nat × AObj), lkObj (keepOs K os) b = if b ∈ K then lkObj os b else none
 | [] => by simp [keepOs, lkObj]
 | (c, o) :: os => by
  have ih := lk_keep' K b os
  unfold keepOs at ih ⊢
  rw [List.filter_cons]
  by_cases hc : c ∈ K
  ·rw [if_pos (by simpa using hc)]
   simp only [lkObj]
   rw [ih]
   by_cases e : b = c
   ·subst e; simp [hc]
   ·simp [e]
  ·rw [if_neg (by simpa using hc), ih]
   by_cases hb : b ∈ K
   ·rw [if_pos hb, if_pos hb]
    simp only [lkObj]
    rw [if_neg (by rintro rfl; exact hc hb)]
   ·rw [if_neg hb, if_neg hb]
theorem lk_keep {K : List Nat} {b : Nat} {o : AObj} {os : List (Nat × AObj)} (h : lkObj (keepOs K os) b = some o) : lkObj os b = some o := by
 rw [lk_keep'] at h
 split at h
 ·exact h
 ·cases h
theorem tabs_keep {K : List Nat} {g : Nat} {os : List (Nat × AObj)} {x : Row × Obj} (h : tabsOf (keepOs K os) g = some x) : tabsOf os g = some x := by
 unfold tabsOf at h ⊢
 cases hl : lkObj (keepOs K os) g with
 | none => rw [hl] at h; cases h
 | some o => rw [lk_keep hl]; rw [hl] at h; exact h
theorem lk_append (b : Nat) : ∀ l m : List (Nat × AObj), lkObj (l ++ m) b = match lkObj l b with | some o => some o | none => lkObj m b
 | [], m => rfl
 | (c, o) :: l, m => by
  show (if b = c then some o else lkObj (l ++ m) b) = _
  rw [lk_append b l m]
  simp only [lkObj]
  split
  ·rfl
  ·rfl
def absV (g0 : Nat) (W : World) : Value → Value
 | .int k n => .int k n
 | .bool b => .bool b
 | .string s => .string s
 | .slice none n c => if n ≤ c then .slice none n c else .tuple #[]
 | .slice (some a) n c => if n ≤ c then (if c = 0 then .slice (some ⟨g0, 0, none⟩) 0 0 else if a.block < W.heap.size then .slice (some a) n c else .tuple #[]) else .tuple #[]
 | _ => .tuple #[]
theorem absV_vr {g0 : Nat} {W : World} {φ : Phi} (h0 : ∃ x, φ g0 = some x ∧ ∀ d e, x = some (d, e) → d = g0) (hφ : ∀ c, c < W.heap.size → ∃ x, φ c = some x ∧ ∀ d e, x = some (d, e) → d = c ∧ e = 0) {v : Value} (hn : notHole (absV g0 W v) = true) : VR φ (absV g0 W v) v := by
 unfold absV at hn ⊢
 split at hn
 ·exact .int _ _
 ·exact .bool _
 ·exact .string _
 ·split at hn
  ·rename_i h; rw [if_pos h]; exact .nilSlice h
  ·cases hn
 ·rename_i a n c
  split at hn
  ·rename_i h
   rw [if_pos h]
   split at hn
   ·rename_i hc
    subst hc
    rw [if_pos rfl]
    obtain rfl : n = 0 := by omega
    obtain ⟨x, hx, hxd⟩ := h0
    exact .slice 0 ⟨⟨Nat.le_refl _, Nat.le_refl _⟩, x, hx, fun d e _ => ⟨.inl rfl, .inl ⟨rfl, rfl⟩⟩⟩
   ·rename_i hc
    rw [if_neg hc]
    split at hn
    ·rename_i hb
     rw [if_pos hb]
     obtain ⟨x, hx, hxd⟩ := hφ a.block hb
     exact .slice n ⟨⟨h, Nat.le_refl _⟩, x, hx, fun d e hde => ⟨.inl rfl, .inr ⟨rfl, rfl, (hxd d e hde).1.symm⟩⟩⟩
    ·cases hn
  ·cases hn
 ·cases hn
noncomputable def worldF (g0 : Nat) (W : World) (K : List Nat) (c : Nat) : Option (Nat × AObj) := if c ∈ K then none else match W.heap[c]? with
 | some (.cells arr e fz) => some (c, .pin (Row.ofList (arr.toList.map (absV g0 W))) (.cells arr e fz))
 | _ => none
noncomputable def worldOs (g0 : Nat) (W : World) (K : List Nat) : List (Nat × AObj) := (List.range W.heap.size).filterMap (worldF g0 W K)
theorem lk_filter {F : Nat → Option (Nat × AObj)} (hF : ∀ c x, F c = some x → x.1 = c) (b : Nat) : ∀ l : List Nat, lkObj (l.filterMap F) b = if b ∈ l then (F b).map (·.2) else none
 | [] => by simp [lkObj]
 | c :: l => by
  have ih := lk_filter hF b l
  rw [List.filterMap_cons]
  cases hc : F c with
  | none =>
   simp only [ih]
   by_cases e : b = c
   ·subst e; simp [hc]
   ·simp [e]
  | some x =>
   have hx := hF c x hc
   obtain ⟨d, o⟩ := x
   simp only at hx
   subst hx
   simp only [lkObj, ih]
   by_cases e : b = d
   ·subst e; simp [hc]
   ·simp [e]
theorem worldF_key {g0 : Nat} {W : World} {K : List Nat} (c : Nat) (x : Nat × AObj) (h : worldF g0 W K c = some x) : x.1 = c := by
 unfold worldF at h
 split at h
 ·cases h
 ·split at h
  ·obtain rfl := Option.some.inj h; rfl
  ·cases h
theorem lk_world {g0 : Nat} {W : World} {K : List Nat} {c : Nat} {arr : Array Value} {e : TypeId} {fz : Nat × Nat} (hc : c ∉ K) (h : W.heap[c]? = some (.cells arr e fz)) : lkObj (worldOs g0 W K) c = some (.pin (Row.ofList (arr.toList.map (absV g0 W))) (.cells arr e fz)) := by
 unfold worldOs
 rw [lk_filter worldF_key, if_pos (List.mem_range.2 (Array.getElem?_eq_some_iff.1 h).1)]
 unfold worldF
 rw [if_neg hc, h]
 rfl
theorem lk_world_inv {g0 : Nat} {W : World} {K : List Nat} {c : Nat} {o : AObj} (h : lkObj (worldOs g0 W K) c = some o) : c ∉ K ∧ ∃ arr e fz, W.heap[c]? = some (.cells arr e fz) ∧ o = .pin (Row.ofList (arr.toList.map (absV g0 W))) (.cells arr e fz) := by
 unfold worldOs at h
 rw [lk_filter worldF_key] at h
 split at h
 ·unfold worldF at h
  split at h
  ·cases h
  ·rename_i hk
   split at h
   ·rename_i arr e fz hh
    exact ⟨hk, arr, e, fz, hh, (Option.some.inj h).symm⟩
   ·cases h
 ·cases h
def TabRow (W : World) (K : List Nat) (N : Nat) (tab : List (Nat × AObj)) : Prop := ∀ b o, lkObj tab b = some o → b ∈ K ∧ b < N ∧ ∃ r p, o = .pin r p ∧ ∀ φ : Phi, W.heap[b]? = some p ∧ ∃ arr e fz, p = .cells arr e fz ∧ r.list.length ≤ arr.toList.length ∧ ∀ (i : Nat) v u, r.list[i]? = some v → notHole v = true → arr.toList[i]? = some u → VR φ v u
theorem pinsWorld {P : Program} {W : World} {K : List Nat} {tab : List (Nat × AObj)} {g0 : Nat} (hT : TabRow W K P.globals.size tab) (h0 : g0 < P.globals.size) : PinsOk P (tab ++ worldOs g0 W K) (W.heap.size + P.globals.size) id W := by
 have hphi : ∀ c, c < W.heap.size + P.globals.size → ∃ x, phi1 (tab ++ worldOs g0 W K) (W.heap.size + P.globals.size) id c = some x ∧ ∀ d e, x = some (d, e) → d = c ∧ e = 0 := fun c hc => by
  unfold phi1
  rw [if_pos hc]
  cases lkObj (tab ++ worldOs g0 W K) c with
  | none => exact ⟨none, rfl, fun _ _ h => by cases h⟩
  | some o => exact ⟨_, rfl, fun d e h => by obtain ⟨rfl, rfl⟩ := Prod.mk.injEq .. ▸ Option.some.inj h; exact ⟨rfl, rfl⟩⟩
 refine ⟨fun b o ho => ?_, fun b b' _ _ _ _ h => h, by omega, fun _ _ => rfl⟩
 rw [lk_append] at ho
 cases ht : lkObj tab b with
 | some o' =>
  rw [ht] at ho
  obtain rfl := Option.some.inj ho
  obtain ⟨_, h2, r, p, rfl, h3⟩ := hT b _ ht
  exact ⟨by omega, r, p, rfl, h3 _⟩
 | none =>
  rw [ht] at ho
  obtain ⟨hk, arr, e, fz, hh, rfl⟩ := lk_world_inv ho
  have hb := (Array.getElem?_eq_some_iff.1 hh).1
  refine ⟨by omega, _, _, rfl, hh, arr, e, fz, rfl, ?_, fun i v u h1 h2 h3 => ?_⟩
  ·rw [Row.ofList_list, List.length_map]; exact Nat.le_refl _
  ·rw [Row.ofList_list, List.getElem?_map, h3] at h1
   obtain rfl := Option.some.inj h1
   obtain ⟨x, hx, hxd⟩ := hphi g0 (by omega)
   exact absV_vr ⟨x, hx, fun d e h => (hxd d e h).1⟩ (fun c hc => hphi c (by omega)) h2
def Shows (T : Tabs) (g0 : Nat) (W : World) : Prop := (∀ A, Has T [] A → A.peek ⟨g0, 0, none⟩ 0 = some []) ∧ ∀ c arr e fz, W.heap[c]? = some (.cells arr e fz) → ∀ A, Has T [] A → ∀ o n, o + n ≤ arr.size → (((arr.toList.map (absV g0 W)).drop o).take n).all notHole = true → A.peek ⟨c, o, none⟩ n = some (((arr.toList.map (absV g0 W)).drop o).take n)
theorem peek_pin {A : AW} {c o n : Nat} {r : Row} {p : Obj} (h : A.get c = some (.pin r p)) (hl : o + n ≤ r.list.length) (hh : ((r.list.drop o).take n).all notHole = true) : A.peek ⟨c, o, none⟩ n = some ((r.list.drop o).take n) := by
 unfold AW.peek
 rw [h]
 simp only [Option.isNone_none, cond_true]
 rw [Row.read_eq, if_pos hl]
 simp only [hh, cond_true]
theorem shows_world {W : World} {K : List Nat} {tab : List (Nat × AObj)} {g0 : Nat} {r0 : Row} {p0 : Obj} (h0 : lkObj tab g0 = some (.pin r0 p0))
  (hK : ∀ c ∈ K, ∃ r p, lkObj tab c = some (.pin r p) ∧ ∀ arr e fz, W.heap[c]? = some (.cells arr e fz) → (r.list = arr.toList.map (absV g0 W) ∨ (r.list.length = arr.size ∧ ∀ v ∈ arr.toList, notHole (absV g0 W v) = false))) (hT : ∀ b o, lkObj tab b = some o → b ∈ K) : Shows (tabsOf (tab ++ worldOs g0 W K)) g0 W := by
 have look : ∀ c r p, lkObj (tab ++ worldOs g0 W K) c = some (.pin r p) → ∀ A, Has (tabsOf (tab ++ worldOs g0 W K)) [] A → A.get c = some (.pin r p) := fun c r p h A hA => hA.1 c r p (tabsOf_some h)
 refine ⟨fun A hA => ?_, fun c arr e fz hh A hA o n hl hg => ?_⟩
 ·have := look g0 r0 p0 (by rw [lk_append, h0]) A hA
  have h9 := peek_pin (o := 0) (n := 0) this (Nat.zero_le _) rfl
  rw [h9]; rfl
 ·by_cases hc : c ∈ K
  ·obtain ⟨r, p, h1, h2⟩ := hK c hc
   have hA' := look c r p (by rw [lk_append, h1]) A hA
   rcases h2 arr e fz hh with e1 | ⟨e1, e2⟩
   ·rw [← e1] at hg ⊢
    exact peek_pin hA' (by rw [e1, List.length_map, Array.length_toList]; exact hl) hg
   ·cases n with
    | zero =>
     rw [List.take_zero]
     have := peek_pin (o := o) (n := 0) hA' (by omega) (by rw [List.take_zero]; rfl)
     rw [this, List.take_zero]
    | succ n =>
     have ho : o < arr.toList.length := by rw [Array.length_toList]; omega
     have hm : absV g0 W arr.toList[o] ∈ ((arr.toList.map (absV g0 W)).drop o).take (n + 1) := List.mem_iff_getElem?.2 ⟨0, by
      rw [List.getElem?_take, if_pos (by omega), List.getElem?_drop, Nat.add_zero, List.getElem?_map, List.getElem?_eq_getElem ho]; rfl⟩
     have h8 := List.all_eq_true.1 hg _ hm
     rw [e2 _ (List.getElem_mem ho)] at h8
     cases h8
  ·have hA' := look c _ _ (by
    rw [lk_append]
    cases ht : lkObj tab c with
    | some o' => exact absurd (hT c _ ht) hc
    | none => exact lk_world hc hh) A hA
   have := peek_pin (o := o) (n := n) hA' (by rw [Row.ofList_list, List.length_map, Array.length_toList]; exact hl) (by rw [Row.ofList_list]; exact hg)
   rw [Row.ofList_list] at this
   exact this
theorem seesB_rows {T : Tabs} {D : List Thing} {a : Option Addr} {n : Nat} {bs : List UInt8} (h : RowsAt T D a n 1 (u8s bs)) : SeesB T D a n bs := by
 have hn := h.1
 rw [u8s_length, Nat.mul_one] at hn
 refine ⟨hn.symm, fun A hA ρ k => ?_⟩
 have hel := (h.2 A hA).2 0 0
 cases a with
 | none =>
  by_cases h0 : 0 < n
  ·obtain ⟨b, hb, _⟩ := (h.2 A hA).1 0 h0
   cases hb
  ·obtain rfl : n = 0 := by omega
   obtain rfl : bs = [] := List.eq_nil_of_length_eq_zero (by omega)
   rfl
 | some a =>
  unfold M.toStr
  unfold AW.elems at hel
  simp only at hel ⊢
  rw [Nat.mul_one] at hel
  rw [hel]
  simp only [Option.bind_some, bytesOf_u8s]
  rfl
theorem cell_at {W : World} {a : Addr} {v : Value} (h : W.cell? a = some v) : ∃ arr e fz, W.heap[a.block]? = some (.cells arr e fz) ∧ a.spot = none ∧ arr.toList[a.off]? = some v := by
 unfold World.cell? at h
 split at h
 ·rename_i arr e fz he
  split at h
  ·cases h
  ·rename_i hsp
   exact ⟨arr, e, fz, he, by simpa using hsp, by simpa using h⟩
 ·cases h
theorem add_spot {a : Addr} {k : Nat} (h : a.spot = none) : a.add k = ⟨a.block, a.off + k, none⟩ := by
 unfold Addr.add
 split
 ·rename_i h0; subst h0; rw [← h]; rfl
 ·rfl
theorem add_block (a : Addr) (k : Nat) : (a.add k).block = a.block := by
 unfold Addr.add
 split <;> rfl
theorem add_none {a : Addr} {k : Nat} (h : (a.add k).spot = none) : k = 0 → a.spot = none := by
 rintro rfl
 unfold Addr.add at h
 exact h
theorem rows_arg {T : Tabs} {g0 : Nat} {W : World} (hS : Shows T g0 W) {a : Addr} {n cap k : Nat} {ch : Nat → List Value} (hk : 1 ≤ k) (hn : n ≤ cap) (hc1 : 1 ≤ cap) (hr : ∀ i, i < cap → (ch i).length = k ∧ ∀ j, j < k → W.cell? ((a.add (i * k)).add j) = (ch i)[j]?)
  (hg : ∀ i, i < n → ((ch i).map (absV g0 W)).all notHole = true) : a.block < W.heap.size ∧ RowsAt T [] (some a) n k ((List.range n).flatMap fun i => (ch i).map (absV g0 W)) ∧ ∀ i, i < n → ((((List.range n).flatMap fun i => (ch i).map (absV g0 W)).drop (i * k)).take k) = (ch i).map (absV g0 W) := by
 obtain ⟨hl0, hr0⟩ := hr 0 (by omega)
 have h00 := hr0 0 (by omega)
 rw [List.getElem?_eq_getElem (show 0 < (ch 0).length by omega)] at h00
 obtain ⟨arr, e, fz, hh, hsp0, hat0⟩ := cell_at h00
 rw [add_block, add_block] at hh
 have hsp : a.spot = none := add_none (add_none hsp0 rfl) (by omega)
 have hcell : ∀ i, i < cap → ∀ j (hj : j < k), arr.toList[a.off + i * k + j]? = (ch i)[j]? := fun i hi j hj => by
  obtain ⟨h1, h2⟩ := hr i hi
  have h3 := h2 j hj
  rw [List.getElem?_eq_getElem (show j < (ch i).length by omega)] at h3
  obtain ⟨arr', e', fz', hh', _, hat⟩ := cell_at h3
  rw [add_spot hsp, add_spot rfl] at hh' hat
  simp only at hh' hat
  rw [hh] at hh'
  injection Option.some.inj hh' with e1
  subst e1
  rw [hat, List.getElem?_eq_getElem (show j < (ch i).length by omega)]
 have hlen : ∀ m, ((List.range m).flatMap fun i => (ch i).map (absV g0 W)).length = m * k ∨ cap < m := fun m => by
  induction m with
  | zero => left; simp
  | succ m ih =>
   by_cases hm : cap < m + 1
   ·exact .inr hm
   ·left
    have := ih.resolve_right (by omega)
    rw [List.range_succ, List.flatMap_append, List.length_append, this, Nat.add_mul, Nat.one_mul]
    simp [(hr m (by omega)).1]
 have hL : ∀ m, m ≤ cap → ((List.range m).flatMap fun i => (ch i).map (absV g0 W)) = ((arr.toList.map (absV g0 W)).drop a.off).take (m * k) := fun m hm => by
  have h1 := (hlen m).resolve_right (by omega)
  apply List.ext_getElem?
  intro q
  by_cases hq : q < m * k
  ·rw [List.getElem?_take, if_pos hq, List.getElem?_drop, List.getElem?_map]
   have hi : q / k < m := Nat.div_lt_of_lt_mul (by rw [Nat.mul_comm]; exact hq)
   have hj : q % k < k := Nat.mod_lt _ hk
   have e3 : q / k * k + q % k = q := Nat.div_add_mod' q k
   have h2 := hcell (q / k) (by omega) (q % k) hj
   rw [show a.off + q / k * k + q % k = a.off + q by omega] at h2
   rw [h2]
   clear h2
   have : ∀ m', m' ≤ cap → q / k < m' → ((List.range m').flatMap fun i => (ch i).map (absV g0 W))[q]? = ((ch (q / k))[q % k]?).map (absV g0 W) := fun m' => by
    induction m' with
    | zero => intro _ h; exact absurd h (Nat.not_lt_zero _)
    | succ m' ih =>
     intro hm' hi'
     have hlm := (hlen m').resolve_right (by omega)
     rw [List.range_succ, List.flatMap_append]
     by_cases hx : q / k < m'
     ·have hqm : q < m' * k := by
       have := mul_le_of_lt (k := k) hx
       omega
      rw [List.getElem?_append_left (by rw [hlm]; exact hqm)]
      exact ih (by omega) hx
     ·have hx2 : q / k = m' := by omega
      have hqm : m' * k ≤ q := by rw [← hx2]; omega
      rw [List.getElem?_append_right (by rw [hlm]; exact hqm), hlm, List.flatMap_singleton, List.getElem?_map]
      congr 2
      ·rw [hx2]
      ·rw [← hx2]; omega
   exact this m hm hi
  ·rw [List.getElem?_eq_none (by omega), List.getElem?_eq_none (by rw [List.length_take]; omega)]
 have hsize : a.off + cap * k ≤ arr.size := by
  have h2 := hcell (cap - 1) (by omega) (k - 1) (by omega)
  have h3 := (hr (cap - 1) (by omega)).1
  rw [List.getElem?_eq_getElem (show k - 1 < (ch (cap - 1)).length by omega)] at h2
  have h4 := (List.getElem?_eq_some_iff.1 h2).1
  rw [Array.length_toList] at h4
  have h5 : (cap - 1) * k + k = cap * k := by
   have := Nat.sub_add_cancel hc1
   conv => rhs; rw [← this, Nat.add_mul, Nat.one_mul]
  omega
 have hnk : n * k ≤ cap * k := Nat.mul_le_mul_right k hn
 have hch : ∀ i, i < n → ((((List.range n).flatMap fun i => (ch i).map (absV g0 W)).drop (i * k)).take k) = (ch i).map (absV g0 W) := fun i hi => by
  have hik := mul_le_of_lt (k := k) hi
  apply List.ext_getElem?
  intro j
  by_cases hj : j < k
  ·rw [hL n hn, List.getElem?_take, if_pos hj, List.getElem?_drop, List.getElem?_take, if_pos (by omega), List.getElem?_drop, List.getElem?_map, List.getElem?_map, ← Nat.add_assoc, hcell i (by omega) j hj]
  ·rw [List.getElem?_eq_none (by rw [List.length_take]; omega), List.getElem?_eq_none (by rw [List.length_map, (hr i (by omega)).1]; omega)]
 have hall : ((((arr.toList.map (absV g0 W)).drop a.off).take (n * k))).all notHole = true := by
  rw [← hL n hn, List.all_eq_true]
  intro v hv
  obtain ⟨i, hi, hv⟩ := List.mem_flatMap.1 hv
  exact List.all_eq_true.1 (hg i (List.mem_range.1 hi)) v hv
 refine ⟨(Array.getElem?_eq_some_iff.1 hh).1, ⟨(hlen n).resolve_right (by omega), fun A hA => ⟨fun i hi => ⟨a, rfl, ?_⟩, fun m c => ?_⟩⟩, hch⟩
 ·have hik := mul_le_of_lt (k := k) hi
  rw [hch i hi, add_spot hsp]
  have e4 : (((arr.toList.map (absV g0 W)).drop (a.off + i * k)).take k) = (ch i).map (absV g0 W) := by
   rw [← hch i hi, hL n hn]
   apply List.ext_getElem?
   intro j
   by_cases hj : j < k
   ·rw [List.getElem?_take, if_pos hj, List.getElem?_drop, List.getElem?_take, if_pos hj, List.getElem?_drop, List.getElem?_take, if_pos (by omega), List.getElem?_drop, Nat.add_assoc]
   ·rw [List.getElem?_eq_none (by rw [List.length_take]; omega), List.getElem?_eq_none (by rw [List.length_take]; omega)]
  rw [← e4]
  exact hS.2 a.block arr e fz hh A hA _ _ (by omega) (by rw [e4]; exact hg i hi)
 ·unfold AW.elems
  simp only
  have : a = ⟨a.block, a.off, none⟩ := by rw [← hsp]
  rw [this, hL n hn]
  exact hS.2 a.block arr e fz hh A hA _ _ (by omega) hall
end Go.Eng
