/-
  EngA: the abstract heap, results, the monad M, shapes of values.
-/
import GoSem.Dispatch
namespace Go.Eng
open Go

/-! ### A map from numbers, as a binary trie -/
inductive Tree (α : Type) where
  | leaf
  | node (v : Option α) (l r : Tree α)

namespace Tree
variable {α : Type}
/-- (Bare recursors: the kernel walks them fastest.) -/
noncomputable def get (t : Tree α) : Nat → Option α :=
  Tree.rec (motive := fun _ => Nat → Option α) (fun _ => none)
    (fun v _ _ hl hr n => Bool.rec (Bool.rec (hr (Nat.sub (Nat.div n 2) 1)) (hl (Nat.div n 2)) (Nat.beq (Nat.mod n 2) 1)) v (Nat.beq n 0)) t
/-- A tree that is looked at before it is handed on. -/
noncomputable def force {β : Type} (t : Tree α) (k : Tree α → β) : β := Tree.rec (motive := fun _ => β) (k .leaf) (fun v l r _ _ => k (.node v l r)) t
theorem force_eq {β : Type} (t : Tree α) (k : Tree α → β) : force t k = k t := by cases t <;> rfl
noncomputable def single (f : Nat) : Nat → Option α → Tree α :=
  Nat.rec (motive := fun _ => Nat → Option α → Tree α) (fun _ _ => .leaf)
    (fun _ ih n x => Bool.rec (Bool.rec (force (ih (Nat.sub (Nat.div n 2) 1) x) fun u => .node none .leaf u) (force (ih (Nat.div n 2) x) fun u => .node none u .leaf) (Nat.beq (Nat.mod n 2) 1)) (.node x .leaf .leaf) (Nat.beq n 0)) f
noncomputable def set (t : Tree α) (n : Nat) (x : Option α) : Tree α :=
  Tree.rec (motive := fun _ => Nat → Tree α) (fun n => single (Nat.succ n) n x)
    (fun v l r hl hr n => Bool.rec (Bool.rec (force (hr (Nat.sub (Nat.div n 2) 1)) fun u => .node v l u) (force (hl (Nat.div n 2)) fun u => .node v u r) (Nat.beq (Nat.mod n 2) 1)) (.node x l r) (Nat.beq n 0)) t n
theorem cond_beq {β : Type} (a b : Nat) (x y : β) : cond (Nat.beq a b) x y = if a = b then x else y := by
  by_cases h : a = b
  · subst h; simp
  · have : Nat.beq a b = false := by
      cases hb : Nat.beq a b
      · rfl
      · exact absurd (Nat.eq_of_beq_eq_true hb) h
    simp [this, h]
theorem rec_cond {β : Type} (b : Bool) (x y : β) : (Bool.rec (motive := fun _ => β) y x b) = cond b x y := by cases b <;> rfl
theorem get_leaf (n : Nat) : (leaf : Tree α).get n = none := rfl
theorem get_node (v : Option α) (l r : Tree α) (n : Nat) : (node v l r).get n = if n = 0 then v else if n % 2 = 1 then l.get (n / 2) else r.get (n / 2 - 1) := by
  rw [← cond_beq (n % 2), ← cond_beq n, ← rec_cond, ← rec_cond]
  rfl
theorem single_succ (f n : Nat) (x : Option α) : (single (f + 1) n x : Tree α) = if n = 0 then .node x .leaf .leaf else if n % 2 = 1 then .node none (single f (n / 2) x) .leaf else .node none .leaf (single f (n / 2 - 1) x) := by
  rw [← cond_beq (n % 2), ← cond_beq n, ← rec_cond, ← rec_cond, ← force_eq (single f (n / 2) x) (fun u => Tree.node none u .leaf), ← force_eq (single f (n / 2 - 1) x) (fun u => Tree.node none .leaf u)]
  rfl
theorem set_node (v : Option α) (l r : Tree α) (n : Nat) (x : Option α) : (node v l r).set n x = if n = 0 then .node x l r else if n % 2 = 1 then .node v (l.set (n / 2) x) r else .node v l (r.set (n / 2 - 1) x) := by
  rw [← cond_beq (n % 2), ← cond_beq n, ← rec_cond, ← rec_cond, ← force_eq (l.set (n / 2) x) (fun u => Tree.node v u r), ← force_eq (r.set (n / 2 - 1) x) (fun u => Tree.node v l u)]
  rfl
theorem get_single (x : Option α) (m : Nat) : ∀ (f n : Nat), n < f → (single f n x).get m = if m = n then x else none
  | 0, _, h => absurd h (Nat.not_lt_zero _)
  | f + 1, n, h => by
    rw [single_succ]
    by_cases hn : n = 0
    · subst hn
      rw [if_pos rfl, get_node]
      by_cases hm : m = 0 <;> simp [hm, get_leaf]
    · rw [if_neg hn]
      by_cases ho : n % 2 = 1
      · rw [if_pos ho, get_node]
        by_cases hm : m = 0
        · subst hm; rw [if_pos rfl, if_neg (fun e => hn e.symm)]
        · rw [if_neg hm]
          by_cases hmo : m % 2 = 1
          · rw [if_pos hmo, get_single x _ f _ (by omega)]
            by_cases e : m = n
            · subst e; simp
            · rw [if_neg e, if_neg (by omega)]
          · rw [if_neg hmo, get_leaf, if_neg (by intro e; subst e; exact hmo ho)]
      · rw [if_neg ho, get_node]
        by_cases hm : m = 0
        · subst hm; rw [if_pos rfl, if_neg (fun e => hn e.symm)]
        · rw [if_neg hm]
          by_cases hmo : m % 2 = 1
          · rw [if_pos hmo, get_leaf, if_neg (by intro e; subst e; exact ho hmo)]
          · rw [if_neg hmo, get_single x _ f _ (by omega)]
            by_cases e : m = n
            · subst e; simp
            · rw [if_neg e, if_neg (by omega)]
theorem get_set (t : Tree α) (n m : Nat) (x : Option α) : (t.set n x).get m = if m = n then x else t.get m := by
  induction t generalizing n m with
  | leaf => exact (get_single x m (n + 1) n (Nat.lt_succ_self n)).trans (by rw [get_leaf])
  | node v l r ihl ihr =>
    rw [set_node, get_node v l r m]
    by_cases hn : n = 0
    · subst hn
      rw [if_pos rfl, get_node]
      by_cases hm : m = 0 <;> simp [hm]
    · rw [if_neg hn]
      by_cases ho : n % 2 = 1
      · rw [if_pos ho, get_node]
        by_cases hm : m = 0
        · subst hm; rw [if_pos rfl, if_pos rfl, if_neg (fun e => hn e.symm)]
        · rw [if_neg hm, if_neg hm]
          by_cases hmo : m % 2 = 1
          · rw [if_pos hmo, if_pos hmo, ihl]
            by_cases e : m = n
            · subst e; simp
            · rw [if_neg e, if_neg (by omega)]
          · rw [if_neg hmo, if_neg hmo, if_neg (by intro e; subst e; exact hmo ho)]
      · rw [if_neg ho, get_node]
        by_cases hm : m = 0
        · subst hm; rw [if_pos rfl, if_pos rfl, if_neg (fun e => hn e.symm)]
        · rw [if_neg hm, if_neg hm]
          by_cases hmo : m % 2 = 1
          · rw [if_pos hmo, if_pos hmo, if_neg (by intro e; subst e; exact ho hmo)]
          · rw [if_neg hmo, if_neg hmo, ihr]
            by_cases e : m = n
            · subst e; simp
            · rw [if_neg e, if_neg (by omega)]
end Tree

/-! ### Rows of cells: a length and a tree -/
def setAt : List Value → Nat → List Value → List Value
  | cs, _, [] => cs
  | [], _, _ :: _ => []
  | _ :: cs, 0, v :: vs => v :: setAt cs 0 vs
  | c :: cs, n + 1, v :: vs => c :: setAt cs n (v :: vs)
/-- z: what stands, over and over, where nothing has been written. -/
structure Row where
  n : Nat
  z : List Value
  t : Tree Value
noncomputable section
namespace Row
def cell (z : List Value) (t : Tree Value) (i : Nat) : Value := Option.rec (z.getD (Nat.mod i z.length) (.tuple #[])) (fun v => v) (t.get i)
/-- What a row holds. -/
def list (r : Row) : List Value := (List.range r.n).map (cell r.z r.t)
def readN (z : List Value) (t : Tree Value) (k : Nat) : Nat → List Value := Nat.rec (motive := fun _ => Nat → List Value) (fun _ => []) (fun _ ih o => cell z t o :: ih (Nat.succ o)) k
def read (r : Row) (o k : Nat) : Option (List Value) := Row.rec (motive := fun _ => Option (List Value)) (fun n z t => Bool.rec none (some (readN z t k o)) (Nat.ble (Nat.add o k) n)) r
theorem read_def (r : Row) (o k : Nat) : r.read o k = Bool.rec none (some (readN r.z r.t k o)) (Nat.ble (Nat.add o k) r.n) := rfl
def writeN (vs : List Value) : Tree Value → Nat → Tree Value :=
  List.rec (motive := fun _ => Tree Value → Nat → Tree Value) (fun t _ => t) (fun v _ ih t o => ih (t.set o (some v)) (Nat.succ o)) vs
/-- The same, one step after another. -/
def writeS (vs : List Value) : Tree Value → Nat → Tree Value :=
  List.rec (motive := fun _ => Tree Value → Nat → Tree Value) (fun t _ => t) (fun v _ ih t o => Tree.force (t.set o (some v)) fun t => ih t (Nat.succ o)) vs
theorem writeS_eq : ∀ (vs : List Value) (t : Tree Value) (o : Nat), writeS vs t o = writeN vs t o
  | [], _, _ => rfl
  | v :: vs, t, o => (Tree.force_eq (t.set o (some v)) (fun t => writeS vs t (o + 1))).trans (writeS_eq vs _ _)
/-- A row whose length and tree have been looked at. -/
def mk' (n : Nat) (z : List Value) (t : Tree Value) : Row := Nat.rec (motive := fun _ => Row) (Tree.force t fun t => ⟨0, z, t⟩) (fun m _ => Tree.force t fun t => ⟨Nat.succ m, z, t⟩) n
theorem mk'_eq (n : Nat) (z : List Value) (t : Tree Value) : mk' n z t = ⟨n, z, t⟩ := by cases n <;> exact Tree.force_eq _ _
def write (r : Row) (o : Nat) (vs : List Value) : Option Row := Row.rec (motive := fun _ => Option Row) (fun n z t => Bool.rec none (some (mk' n z (writeS vs t o))) (Nat.ble (Nat.add o vs.length) n)) r
theorem write_def (r : Row) (o : Nat) (vs : List Value) : r.write o vs = Bool.rec none (some (mk' r.n r.z (writeS vs r.t o))) (Nat.ble (Nat.add o vs.length) r.n) := rfl
def snoc (r : Row) (vs : List Value) : Row := Row.rec (motive := fun _ => Row) (fun n z t => mk' (Nat.add n vs.length) z (writeS vs t n)) r
theorem snoc_def (r : Row) (vs : List Value) : r.snoc vs = mk' (Nat.add r.n vs.length) r.z (writeS vs r.t r.n) := rfl
def cut (r : Row) (m : Nat) : Row := Row.rec (motive := fun _ => Row) (fun _ z t => ⟨m, z, t⟩) r
def ofList (l : List Value) : Row := ⟨l.length, [], writeN l .leaf 0⟩
def full (v : Value) (n : Nat) : Row := ⟨n, [v], .leaf⟩

def app (r : Row) (o m : Nat) (vs : List Value) : Row := Bool.rec (ofList (readN r.z r.t m o ++ vs)) (snoc (cut r m) vs) (Nat.beq o 0)
def repL (zs : List Value) : Nat → List Value
  | 0 => []
  | n + 1 => zs ++ repL zs n
def rep (zs : List Value) (n : Nat) : Row := ⟨Nat.mul n zs.length, zs, .leaf⟩
@[simp] theorem list_length (r : Row) : r.list.length = r.n := by simp [list]
theorem list_get (r : Row) (i : Nat) : r.list[i]? = if i < r.n then some (cell r.z r.t i) else none := by
  unfold list
  rw [List.getElem?_map]
  by_cases h : i < r.n
  · rw [if_pos h, List.getElem?_range h]; rfl
  · rw [if_neg h, List.getElem?_eq_none (by simpa using h)]; rfl
theorem readN_get (z : List Value) (t : Tree Value) : ∀ (k o i : Nat), (readN z t k o)[i]? = if i < k then some (cell z t (o + i)) else none
  | 0, o, i => by
    have : readN z t 0 o = [] := rfl
    rw [this]; simp
  | k + 1, o, 0 => by
    have : readN z t (k + 1) o = cell z t o :: readN z t k (o + 1) := rfl
    rw [this]; simp
  | k + 1, o, i + 1 => by
    have : readN z t (k + 1) o = cell z t o :: readN z t k (o + 1) := rfl
    rw [this, List.getElem?_cons_succ, readN_get z t k (o + 1) i]
    simp only [Nat.succ_lt_succ_iff, show o + 1 + i = o + (i + 1) by omega]
theorem bool_ble {α : Type} (a b : Nat) (x y : α) : (Bool.rec (motive := fun _ => α) y x (Nat.ble a b)) = if a ≤ b then x else y := by
  by_cases h : a ≤ b
  · rw [if_pos h, Nat.ble_eq_true_of_le h]
  · rw [if_neg h]
    cases hb : Nat.ble a b
    · rfl
    · exact absurd (Nat.le_of_ble_eq_true hb) h
theorem read_eq (r : Row) (o k : Nat) : r.read o k = if o + k ≤ r.list.length then some ((r.list.drop o).take k) else none := by
  rw [read_def, bool_ble, list_length]
  by_cases h : o + k ≤ r.n
  · rw [if_pos h, if_pos (show Nat.add o k ≤ r.n from h)]
    congr 1
    apply List.ext_getElem?
    intro i
    rw [readN_get, List.getElem?_take, List.getElem?_drop, list_get]
    by_cases hi : i < k
    · rw [if_pos hi, if_pos hi, if_pos (by omega)]
    · rw [if_neg hi, if_neg hi]
  · rw [if_neg h, if_neg (show ¬ Nat.add o k ≤ r.n from h)]
theorem writeN_cell (z : List Value) : ∀ (vs : List Value) (t : Tree Value) (o i : Nat), cell z (writeN vs t o) i = if o ≤ i ∧ i < o + vs.length then vs.getD (i - o) (.tuple #[]) else cell z t i
  | [], t, o, i => by
    have : writeN [] t o = t := rfl
    rw [this, if_neg (by simp)]
  | v :: vs, t, o, i => by
    have : writeN (v :: vs) t o = writeN vs (t.set o (some v)) (o + 1) := rfl
    rw [this, writeN_cell z vs _ (o + 1) i]
    by_cases e : i = o
    · subst e
      rw [if_neg (by omega), if_pos (by simp)]
      simp [cell, Tree.get_set]
    · by_cases h : o + 1 ≤ i ∧ i < o + 1 + vs.length
      · rw [if_pos h, if_pos (by simp; omega)]
        obtain ⟨j, rfl⟩ : ∃ j, i = o + 1 + j := ⟨i - (o + 1), by omega⟩
        rw [show o + 1 + j - (o + 1) = j by omega, show o + 1 + j - o = j + 1 by omega]
        simp
      · rw [if_neg h, if_neg (by simp; omega)]
        simp [cell, Tree.get_set, e]
theorem setAt_len : ∀ (cs : List Value) (n : Nat) (vs : List Value), n + vs.length ≤ cs.length → (setAt cs n vs).length = cs.length
  | cs, n, [], _ => by cases cs <;> cases n <;> rfl
  | [], _, _ :: _, h => by simp at h
  | c :: cs, 0, v :: vs, h => by
    simp only [setAt, List.length_cons]
    rw [setAt_len cs 0 vs (by simp at h; omega)]
  | c :: cs, n + 1, v :: vs, h => by
    simp only [setAt, List.length_cons]
    rw [setAt_len cs n (v :: vs) (by simp at h ⊢; omega)]
theorem setAt_at : ∀ (cs : List Value) (n : Nat) (vs : List Value) (i : Nat), n + vs.length ≤ cs.length → (setAt cs n vs)[i]? = if n ≤ i ∧ i < n + vs.length then vs[i - n]? else cs[i]?
  | cs, n, [], i, _ => by
    have : setAt cs n [] = cs := by cases cs <;> cases n <;> rfl
    rw [this, if_neg (by simp only [List.length_nil]; omega)]
  | [], _, _ :: _, _, h => by simp at h
  | c :: cs, 0, v :: vs, 0, _ => by simp [setAt]
  | c :: cs, 0, v :: vs, i + 1, h => by
    simp only [setAt, List.getElem?_cons_succ]
    rw [setAt_at cs 0 vs i (by simp at h; omega)]
    by_cases hi : i < vs.length
    · rw [if_pos (by omega), if_pos (by simp; omega)]; simp
    · rw [if_neg (by omega), if_neg (by simp; omega)]
  | c :: cs, n + 1, v :: vs, 0, h => by
    simp only [setAt]
    rw [if_neg (by omega)]; rfl
  | c :: cs, n + 1, v :: vs, i + 1, h => by
    simp only [setAt, List.getElem?_cons_succ]
    rw [setAt_at cs n (v :: vs) i (by simp at h ⊢; omega)]
    by_cases hi : n ≤ i ∧ i < n + (v :: vs).length
    · rw [if_pos hi, if_pos (by omega), Nat.add_sub_add_right]
    · rw [if_neg hi, if_neg (by omega)]
theorem write_eq (r : Row) (o : Nat) (vs : List Value) : r.write o vs = if o + vs.length ≤ r.list.length then some ⟨r.n, r.z, writeN vs r.t o⟩ else none := by
  rw [write_def, bool_ble, list_length, mk'_eq, writeS_eq]
  rfl
theorem write_list {r r' : Row} {o : Nat} {vs : List Value} (h : r.write o vs = some r') : o + vs.length ≤ r.list.length ∧ r'.list = setAt r.list o vs := by
  rw [write_eq] at h
  by_cases hl : o + vs.length ≤ r.list.length
  · rw [if_pos hl] at h
    obtain rfl := Option.some.inj h
    refine ⟨hl, List.ext_getElem? fun i => ?_⟩
    have hn : (⟨r.n, r.z, writeN vs r.t o⟩ : Row).n = r.n := rfl
    rw [list_get, hn, setAt_at _ _ _ _ hl, list_get, writeN_cell]
    simp only [list_length] at hl
    by_cases hi : o ≤ i ∧ i < o + vs.length
    · rw [if_pos hi, if_pos hi, if_pos (by omega), List.getD_eq_getElem?_getD, List.getElem?_eq_getElem (by omega)]; rfl
    · rw [if_neg hi, if_neg hi]
  · rw [if_neg hl] at h; cases h
theorem snoc_list (r : Row) (vs : List Value) : (r.snoc vs).list = r.list ++ vs := by
  apply List.ext_getElem?
  intro i
  have hn : (r.snoc vs).n = r.n + vs.length := by rw [snoc_def, mk'_eq]; rfl
  have ht : (r.snoc vs).t = writeN vs r.t r.n := by rw [snoc_def, mk'_eq, writeS_eq]
  have hz : (r.snoc vs).z = r.z := by rw [snoc_def, mk'_eq]
  rw [list_get, hn, ht, hz, writeN_cell, List.getElem?_append, list_length, list_get]
  by_cases h : i < r.n
  · rw [if_pos (by omega), if_neg (by omega), if_pos h]; simp [h]
  · by_cases h2 : i < r.n + vs.length
    · rw [if_pos h2, if_pos (by omega), if_neg h, List.getD_eq_getElem?_getD, List.getElem?_eq_getElem (by omega)]; rfl
    · rw [if_neg h2, if_neg h, List.getElem?_eq_none (by omega)]
theorem cut_list {r : Row} {m : Nat} (h : m ≤ r.n) : (r.cut m).list = r.list.take m := by
  apply List.ext_getElem?
  intro i
  have hn : (r.cut m).n = m := rfl
  have ht : (r.cut m).t = r.t := rfl
  have hz : (r.cut m).z = r.z := rfl
  rw [list_get, List.getElem?_take, hn, ht, hz, list_get]
  by_cases hi : i < m
  · rw [if_pos hi, if_pos hi, if_pos (by omega)]
  · rw [if_neg hi, if_neg hi]
theorem ofList_n (l : List Value) : (ofList l).n = l.length := rfl
theorem ofList_list (l : List Value) : (ofList l).list = l := by
  apply List.ext_getElem?
  intro i
  have hn : (ofList l).n = l.length := ofList_n l
  have ht : (ofList l).t = writeN l .leaf 0 := rfl
  rw [list_get, hn, ht, writeN_cell]
  by_cases h : i < l.length
  · rw [if_pos h, if_pos (by omega), Nat.sub_zero, List.getD_eq_getElem?_getD, List.getElem?_eq_getElem h]; rfl
  · rw [if_neg h, List.getElem?_eq_none (by omega)]
theorem full_list (v : Value) (n : Nat) : (full v n).list = List.replicate n v := by
  apply List.ext_getElem?
  intro i
  have hn : (full v n).n = n := rfl
  have hc : cell (full v n).z (full v n).t i = v := by
    show ([v] : List Value).getD (i % 1) (.tuple #[]) = v
    rw [Nat.mod_one]; rfl
  rw [list_get, hn, hc, List.getElem?_replicate]
theorem app_list {r : Row} {o m : Nat} {vs : List Value} (h : o + m ≤ r.n) : (r.app o m vs).list = (r.list.drop o).take m ++ vs := by
  unfold app
  have hr : readN r.z r.t m o = (r.list.drop o).take m := by
    have := read_eq r o m
    rw [if_pos (by rw [list_length]; exact h)] at this
    rw [read_def, bool_ble, if_pos (show Nat.add o m ≤ r.n from h)] at this
    exact Option.some.inj this
  cases hb : Nat.beq o 0 with
  | true =>
    obtain rfl := Nat.eq_of_beq_eq_true hb
    show (snoc (cut r m) vs).list = _
    rw [snoc_list, cut_list (by omega), List.drop_zero]
  | false =>
    show (ofList (readN r.z r.t m o ++ vs)).list = _
    rw [ofList_list, hr]
theorem repL_length (zs : List Value) : ∀ n, (repL zs n).length = n * zs.length
  | 0 => by simp [repL]
  | n + 1 => by simp [repL, repL_length zs n, Nat.succ_mul, Nat.add_comm]
theorem repL_get (zs : List Value) : ∀ n i, i < n * zs.length → (repL zs n)[i]? = zs[i % zs.length]?
  | 0, i, h => by simp at h
  | n + 1, i, h => by
    unfold repL
    rw [List.getElem?_append]
    by_cases hi : i < zs.length
    · rw [if_pos hi, Nat.mod_eq_of_lt hi]
    · rw [if_neg hi, repL_get zs n (i - zs.length) (by rw [Nat.succ_mul] at h; omega), ← Nat.mod_eq_sub_mod (by omega)]
theorem rep_list (zs : List Value) (n : Nat) : (rep zs n).list = repL zs n := by
  apply List.ext_getElem?
  intro i
  have hn : (rep zs n).n = n * zs.length := rfl
  rw [list_get, hn]
  by_cases h : i < n * zs.length
  · have hp : 0 < zs.length := by
      rcases Nat.eq_zero_or_pos zs.length with e | e
      · rw [e] at h; simp at h
      · exact e
    rw [if_pos h, repL_get zs n i h]
    have hm : i % zs.length < zs.length := Nat.mod_lt _ hp
    show some (zs.getD (i % zs.length) (.tuple #[])) = _
    rw [List.getElem?_eq_getElem hm, List.getD_eq_getElem?_getD, List.getElem?_eq_getElem hm]
    rfl
  · rw [if_neg h, List.getElem?_eq_none (by rw [repL_length]; omega)]
end Row
end

/-! ### What lies in the abstract heap -/
/-- How an activation goes on. -/
inductive Exit where
  | normal
  | exit (id : Nat)
  | ret
  deriving Inhabited

inductive Cell where
  | bool | int (k : IntKind) | string | ptr | slice | map | val
  deriving Inhabited
/-- A value's shape: one cell, a row of cells, or whatever an aggregate holds. -/
inductive Sh where
  | cell (c : Cell)
  | agg (l : List Cell)
  | raw
  deriving Inhabited

/-- Where ways meet: the slots that may have been written, and those that are carried, with their shapes. -/
structure Join where
  mods : List Nat
  sl : List (Nat × Sh)

inductive Ann where
  | leaf
  | seq (a b : Ann) (j : Option Join)
  | cond (a b : Ann)
  | block (a : Ann) (j : Option Join)
  | loop (a : Ann) (mods : List Nat) (carry : List (Nat × Sh)) (exits : List (Option Nat × List (Nat × Sh)))
  | region (j : Option Join)
  | rangeFunc (a b : Ann)
  /-- a region that ends in a defer, and what stands behind it -/
  | defer (mods : List Nat) (b : Ann)
  deriving Inhabited

abbrev Slots := List (Nat × Value)

/-- The record of a range over a function. -/
structure ALoop where
  state : LoopState
  pending : Option Code
  bound : Nat
  env : Slots
  params : List Tmp
  assign : Code
  body : Code
  ann : Ann

inductive AObj where
  /-- a row of cells; grow: there may be room behind its end; fz: cells that may not be written; ish: a string's bytes may be told apart from it or not -/
  | cells (cs : Row) (elem : TypeId) (grow : Bool) (fz : Nat × Nat) (ish : Bool)
  | iter (s : ByteArray) (pos : Nat)
  | map (es : List MapEntry) (clock : Nat)
  | loop (l : ALoop)

structure AW where
  heap : Tree AObj
  next : Nat

noncomputable section
namespace AW
def get (A : AW) (b : Nat) : Option AObj := A.heap.get b
def put (A : AW) (b : Nat) (o : AObj) : AW := { heap := A.heap.set b (some o), next := A.next }
def del (A : AW) (b : Nat) : AW := { heap := A.heap.set b none, next := A.next }
def alloc (A : AW) (o : AObj) : AW := { heap := A.heap.set A.next (some o), next := A.next + 1 }
@[simp] theorem get_put (A : AW) (b c : Nat) (o : AObj) : (A.put b o).get c = if c = b then some o else A.get c := Tree.get_set ..
@[simp] theorem get_del (A : AW) (b c : Nat) : (A.del b).get c = if c = b then none else A.get c := Tree.get_set ..
@[simp] theorem get_alloc (A : AW) (c : Nat) (o : AObj) : (A.alloc o).get c = if c = A.next then some o else A.get c := Tree.get_set ..
@[simp] theorem next_put (A : AW) (b : Nat) (o : AObj) : (A.put b o).next = A.next := rfl
@[simp] theorem next_del (A : AW) (b : Nat) : (A.del b).next = A.next := rfl
@[simp] theorem next_alloc (A : AW) (o : AObj) : (A.alloc o).next = A.next + 1 := rfl
end AW
end

/-! ### Results, and what goes from heap to result -/
inductive Res (ρ : Type) where
  | stuck
  | ok (a : ρ) (A : AW)
  | panic (v : Value) (A : AW)

def M (ρ : Type) : Type := AW → Res ρ

namespace M
variable {ρ σ : Type}
def stuck : M ρ := fun _ => .stuck
def pure (a : ρ) : M ρ := fun A => .ok a A
def throw (v : Value) : M ρ := fun A => .panic v A
def bind (m : M σ) (k : σ → M ρ) : M ρ := fun A => match m A with
  | .ok a A' => k a A'
  | .panic v A' => .panic v A'
  | .stuck => .stuck
/-- bind, with what is done with a panic -/
def bindP (m : M σ) (k : σ → M ρ) (h : Value → M ρ) : M ρ := fun A => match m A with
  | .ok a A' => k a A'
  | .panic v A' => h v A'
  | .stuck => .stuck
def ite (b : Bool) (x y : M ρ) : M ρ := cond b x y
def guard (b : Bool) (x : M ρ) : M ρ := cond b x stuck
/-- ways meet: k is what stands behind -/
def join {J : Type} (k : J) (f : J → M ρ) : M ρ := f k
end M

/-! ### Shapes -/
def Cell.T : Cell → Type
  | .bool => Bool
  | .int _ => Int
  | .string => ByteArray
  | .ptr => Option Addr
  | .slice => Option Addr × Nat × Nat
  | .map => Option Nat
  | .val => Value
def Cell.inj : (c : Cell) → c.T → Value
  | .bool, b => .bool b
  | .int k, n => .int k n
  | .string, s => .string s
  | .ptr, p => .pointer p
  | .slice, s => .slice s.1 s.2.1 s.2.2
  | .map, m => .map m
  | .val, v => v
def Cell.prj : (c : Cell) → Value → Option c.T
  | .bool, .bool b => some b
  | .int k, .int k' n => cond (decide (k = k')) (some n) none
  | .string, .string s => some s
  | .ptr, .pointer p => some p
  | .slice, .slice a n c => some (a, n, c)
  | .map, .map m => some m
  | .val, v => some v
  | _, _ => none
def CellsT : List Cell → Type
  | [] => Unit
  | c :: l => c.T × CellsT l
def cellsInj : (l : List Cell) → CellsT l → List Value
  | [], _ => []
  | c :: l, x => c.inj x.1 :: cellsInj l x.2
def cellsPrj : (l : List Cell) → List Value → Option (CellsT l)
  | [], [] => some ()
  | c :: l, v :: vs => match c.prj v, cellsPrj l vs with
    | some x, some y => some (x, y)
    | _, _ => none
  | _, _ => none
def Sh.T : Sh → Type
  | .cell c => c.T
  | .agg l => CellsT l
  | .raw => List Value
def Sh.inj : (s : Sh) → s.T → Value
  | .cell c, x => c.inj x
  | .agg l, x => .agg ⟨cellsInj l x⟩
  | .raw, x => .agg ⟨x⟩
def aggOf : Value → Option (List Value)
  | .agg cs => some cs.toList
  | _ => none
def tupOf : Value → Option (List Value)
  | .tuple cs => some cs.toList
  | _ => none
def Sh.prj : (s : Sh) → Value → Option s.T
  | .cell c, v => c.prj v
  | .agg l, v => match aggOf v with
    | some cs => cellsPrj l cs
    | none => none
  | .raw, v => aggOf v
def ShsT : List Sh → Type
  | [] => Unit
  | s :: l => s.T × ShsT l
def shsInj : (l : List Sh) → ShsT l → List Value
  | [], _ => []
  | s :: l, x => s.inj x.1 :: shsInj l x.2
def shsPrj : (l : List Sh) → List Value → Option (ShsT l)
  | [], [] => some ()
  | s :: l, v :: vs => match s.prj v, shsPrj l vs with
    | some x, some y => some (x, y)
    | _, _ => none
  | _, _ => none
/-- What a call hands back: nothing or one value or several. -/
inductive RSh where
  | one (s : Sh)
  | tuple (l : List Sh)
def RSh.T : RSh → Type
  | .one s => s.T
  | .tuple l => ShsT l
def RSh.inj : (r : RSh) → r.T → Value
  | .one s, x => s.inj x
  | .tuple l, x => .tuple ⟨shsInj l x⟩
def RSh.prj : (r : RSh) → Value → Option r.T
  | .one s, v => s.prj v
  | .tuple l, v => match tupOf v with
    | some vs => shsPrj l vs
    | none => none

/-! ### Slots -/
def look (t : Nat) : Slots → Option Value
  | [] => none
  | (u, v) :: l => cond (Nat.beq u t) (some v) (look t l)
def SlT (l : List (Nat × Sh)) : Type := ShsT (l.map (·.2))
def slPut : (l : List (Nat × Sh)) → ShsT (l.map (·.2)) → Slots → Slots
  | [], _, e => e
  | (t, s) :: l, x, e => (t, s.inj x.1) :: slPut l x.2 e
def slTake : (l : List (Nat × Sh)) → Slots → Option (ShsT (l.map (·.2)))
  | [], _ => some ()
  | (t, s) :: l, e => match (look t e).bind s.prj, slTake l e with
    | some x, some y => some (x, y)
    | _, _ => none
def drop (mods : List Nat) : Slots → Slots
  | [] => []
  | (u, v) :: l => cond (mods.any (Nat.beq u)) (drop mods l) ((u, v) :: drop mods l)

theorem Cell.inj_prj {c : Cell} {v : Value} {x : c.T} (h : c.prj v = some x) : c.inj x = v := by
  cases c with
  | bool => cases v <;> first | (exact congrArg _ (Option.some.inj h).symm) | (simp [Cell.prj] at h; done)
  | int k =>
    cases v <;> try (simp [Cell.prj] at h; done)
    rename_i k' n
    simp only [Cell.prj] at h
    by_cases e : k = k'
    · subst e
      simp only [decide_true, cond_true] at h
      exact congrArg _ (Option.some.inj h).symm
    · simp [e] at h
  | string => cases v <;> first | (exact congrArg _ (Option.some.inj h).symm) | (simp [Cell.prj] at h; done)
  | ptr => cases v <;> first | (exact congrArg _ (Option.some.inj h).symm) | (simp [Cell.prj] at h; done)
  | slice =>
    cases v <;> try (simp [Cell.prj] at h; done)
    have := Option.some.inj h
    exact this ▸ rfl
  | map => cases v <;> first | (exact congrArg _ (Option.some.inj h).symm) | (simp [Cell.prj] at h; done)
  | val => exact (Option.some.inj h).symm
theorem cellsInj_prj : ∀ {l : List Cell} {vs : List Value} {x : CellsT l}, cellsPrj l vs = some x → cellsInj l x = vs
  | [], [], _, _ => rfl
  | [], _ :: _, _, h => by simp [cellsPrj] at h
  | _ :: _, [], _, h => by simp [cellsPrj] at h
  | c :: l, v :: vs, x, h => by
    simp only [cellsPrj] at h
    split at h
    · rename_i a b ha hb
      obtain rfl := Option.some.inj h
      simp only [cellsInj, Cell.inj_prj ha, cellsInj_prj hb]
    · cases h
theorem aggOf_some {v : Value} {cs : List Value} (h : aggOf v = some cs) : v = .agg ⟨cs⟩ := by
  cases v <;> simp only [aggOf, reduceCtorEq, Option.some.injEq] at h
  subst h; rfl
theorem tupOf_some {v : Value} {cs : List Value} (h : tupOf v = some cs) : v = .tuple ⟨cs⟩ := by
  cases v <;> simp only [tupOf, reduceCtorEq, Option.some.injEq] at h
  subst h; rfl
theorem Sh.inj_prj {s : Sh} {v : Value} {x : s.T} (h : s.prj v = some x) : s.inj x = v := by
  cases s with
  | cell c => exact Cell.inj_prj h
  | agg l =>
    simp only [Sh.prj] at h
    split at h
    · rename_i cs hc
      rw [aggOf_some hc]
      exact congrArg (fun l => Value.agg ⟨l⟩) (cellsInj_prj h)
    · cases h
  | raw => exact (aggOf_some h).symm
theorem shsInj_prj : ∀ {l : List Sh} {vs : List Value} {x : ShsT l}, shsPrj l vs = some x → shsInj l x = vs
  | [], [], _, _ => rfl
  | [], _ :: _, _, h => by simp [shsPrj] at h
  | _ :: _, [], _, h => by simp [shsPrj] at h
  | s :: l, v :: vs, x, h => by
    simp only [shsPrj] at h
    split at h
    · rename_i a b ha hb
      obtain rfl := Option.some.inj h
      simp only [shsInj, Sh.inj_prj ha, shsInj_prj hb]
    · cases h
theorem RSh.inj_prj {r : RSh} {v : Value} {x : r.T} (h : r.prj v = some x) : r.inj x = v := by
  cases r with
  | one s => exact Sh.inj_prj h
  | tuple l =>
    simp only [RSh.prj] at h
    split at h
    · rename_i cs hc
      rw [tupOf_some hc]
      exact congrArg (fun l => Value.tuple ⟨l⟩) (shsInj_prj h)
    · cases h
end Go.Eng
