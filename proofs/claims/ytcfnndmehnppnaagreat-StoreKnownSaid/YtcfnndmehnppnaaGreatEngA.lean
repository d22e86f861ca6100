/-
  EngA: the abstract heap, results, the monad M, shapes of values.
-/
import GoSem.Dispatch
namespace Go.Eng
open Go

/-! ### A map from numbers, as a binary trie -/
inductive Tree (α : Type) where
  | leaf
  | node (v : Option α) (l r : Tree α)

namespace Tree
variable {α : Type}
def get : Tree α → Nat → Option α
  | .leaf, _ => none
  | .node v l r, n => cond (Nat.beq n 0) v (cond (Nat.beq (n % 2) 1) (l.get (n / 2)) (r.get (n / 2 - 1)))
def parts : Tree α → Option α × Tree α × Tree α
  | .leaf => (none, .leaf, .leaf)
  | .node v l r => (v, l, r)
def setF : Nat → Tree α → Nat → Option α → Tree α
  | 0, t, _, _ => t
  | f + 1, t, n, x =>
    cond (Nat.beq n 0) (.node x t.parts.2.1 t.parts.2.2)
      (cond (Nat.beq (n % 2) 1) (.node t.parts.1 (setF f t.parts.2.1 (n / 2) x) t.parts.2.2)
        (.node t.parts.1 t.parts.2.1 (setF f t.parts.2.2 (n / 2 - 1) x)))
def set (t : Tree α) (n : Nat) (x : Option α) : Tree α := setF (n + 1) t n x

theorem get_parts (t : Tree α) (m : Nat) : t.get m =
    cond (Nat.beq m 0) t.parts.1 (cond (Nat.beq (m % 2) 1) (t.parts.2.1.get (m / 2)) (t.parts.2.2.get (m / 2 - 1))) := by
  cases t with
  | leaf => simp [parts, get]
  | node v l r => rfl

theorem cond_beq {β : Type} (a b : Nat) (x y : β) : cond (Nat.beq a b) x y = if a = b then x else y := by
  by_cases h : a = b
  · subst h; simp
  · have : Nat.beq a b = false := by
      cases hb : Nat.beq a b
      · rfl
      · exact absurd (Nat.eq_of_beq_eq_true hb) h
    simp [this, h]

theorem get_setF (x : Option α) (m : Nat) : ∀ (f : Nat) (t : Tree α) (n : Nat), n < f → (setF f t n x).get m = if m = n then x else t.get m
  | 0, _, _, h => absurd h (Nat.not_lt_zero _)
  | f + 1, t, n, h => by
    rw [get_parts t m]
    simp only [setF, cond_beq]
    by_cases hn : n = 0
    · subst hn
      simp only [if_true, get, cond_beq]
      by_cases hm : m = 0 <;> simp [hm]
    · rw [if_neg hn]
      by_cases ho : n % 2 = 1
      · rw [if_pos ho]
        simp only [get, cond_beq]
        by_cases hm : m = 0
        · subst hm; simp; intro h0; exact absurd h0.symm hn
        · rw [if_neg hm, if_neg hm]
          by_cases hmo : m % 2 = 1
          · rw [if_pos hmo, if_pos hmo, get_setF x _ f _ _ (by omega)]
            by_cases e : m = n
            · subst e; simp
            · rw [if_neg e, if_neg (by omega)]
          · rw [if_neg hmo, if_neg hmo, if_neg (by intro e; subst e; exact hmo ho)]
      · rw [if_neg ho]
        simp only [get, cond_beq]
        by_cases hm : m = 0
        · subst hm; simp; intro h0; exact absurd h0.symm hn
        · rw [if_neg hm, if_neg hm]
          by_cases hmo : m % 2 = 1
          · rw [if_pos hmo, if_pos hmo, if_neg (by intro e; subst e; exact ho hmo)]
          · rw [if_neg hmo, if_neg hmo, get_setF x _ f _ _ (by omega)]
            by_cases e : m = n
            · subst e; simp
            · rw [if_neg e, if_neg (by omega)]

theorem get_set (t : Tree α) (n m : Nat) (x : Option α) : (t.set n x).get m = if m = n then x else t.get m :=
  get_setF x m (n + 1) t n (Nat.lt_succ_self n)
end Tree

/-! ### What lies in the abstract heap -/
/-- How an activation goes on. -/
inductive Exit where
  | normal
  | exit (id : Nat)
  | ret
  deriving Inhabited

inductive Cell where
  | bool | int (k : IntKind) | string | ptr | slice | map | val
  deriving Inhabited
/-- A value's shape: one cell, a row of cells, or whatever an aggregate holds. -/
inductive Sh where
  | cell (c : Cell)
  | agg (l : List Cell)
  | raw
  deriving Inhabited

/-- Where ways meet: the slots that may have been written, and those that are carried, with their shapes. -/
structure Join where
  mods : List Nat
  sl : List (Nat × Sh)

inductive Ann where
  | leaf
  | seq (a b : Ann) (j : Option Join)
  | cond (a b : Ann)
  | block (a : Ann) (j : Option Join)
  | loop (a : Ann) (mods : List Nat) (carry : List (Nat × Sh)) (exits : List (Option Nat × List (Nat × Sh)))
  | region (j : Option Join)
  | rangeFunc (a b : Ann)
  deriving Inhabited

abbrev Slots := List (Nat × Value)

/-- The record of a range over a function. -/
structure ALoop where
  state : LoopState
  pending : Option Code
  bound : Nat
  env : Slots
  params : List Tmp
  assign : Code
  body : Code
  ann : Ann

inductive AObj where
  /-- a row of cells; grow: there may be room behind its end; fz: cells that may not be written; ish: a string's bytes may be told apart from it or not -/
  | cells (cs : List Value) (elem : TypeId) (grow : Bool) (fz : Nat × Nat) (ish : Bool)
  | iter (s : ByteArray) (pos : Nat)
  | map (es : List MapEntry) (clock : Nat)
  | loop (l : ALoop)

structure AW where
  heap : Tree AObj
  next : Nat

namespace AW
def get (A : AW) (b : Nat) : Option AObj := A.heap.get b
def put (A : AW) (b : Nat) (o : AObj) : AW := { heap := A.heap.set b (some o), next := A.next }
def del (A : AW) (b : Nat) : AW := { heap := A.heap.set b none, next := A.next }
def alloc (A : AW) (o : AObj) : AW := { heap := A.heap.set A.next (some o), next := A.next + 1 }
@[simp] theorem get_put (A : AW) (b c : Nat) (o : AObj) : (A.put b o).get c = if c = b then some o else A.get c := Tree.get_set ..
@[simp] theorem get_del (A : AW) (b c : Nat) : (A.del b).get c = if c = b then none else A.get c := Tree.get_set ..
@[simp] theorem get_alloc (A : AW) (c : Nat) (o : AObj) : (A.alloc o).get c = if c = A.next then some o else A.get c := Tree.get_set ..
@[simp] theorem next_put (A : AW) (b : Nat) (o : AObj) : (A.put b o).next = A.next := rfl
@[simp] theorem next_del (A : AW) (b : Nat) : (A.del b).next = A.next := rfl
@[simp] theorem next_alloc (A : AW) (o : AObj) : (A.alloc o).next = A.next + 1 := rfl
end AW

/-! ### Results, and what goes from heap to result -/
inductive Res (ρ : Type) where
  | stuck
  | ok (a : ρ) (A : AW)
  | panic (v : Value) (A : AW)

def M (ρ : Type) : Type := AW → Res ρ

namespace M
variable {ρ σ : Type}
def stuck : M ρ := fun _ => .stuck
def pure (a : ρ) : M ρ := fun A => .ok a A
def throw (v : Value) : M ρ := fun A => .panic v A
def bind (m : M σ) (k : σ → M ρ) : M ρ := fun A => match m A with
  | .ok a A' => k a A'
  | .panic v A' => .panic v A'
  | .stuck => .stuck
/-- bind, with what is done with a panic -/
def bindP (m : M σ) (k : σ → M ρ) (h : Value → M ρ) : M ρ := fun A => match m A with
  | .ok a A' => k a A'
  | .panic v A' => h v A'
  | .stuck => .stuck
def ite (b : Bool) (x y : M ρ) : M ρ := cond b x y
def guard (b : Bool) (x : M ρ) : M ρ := cond b x stuck
/-- ways meet: k is what stands behind -/
def join {J : Type} (k : J) (f : J → M ρ) : M ρ := f k
end M

/-! ### Shapes -/
def Cell.T : Cell → Type
  | .bool => Bool
  | .int _ => Int
  | .string => ByteArray
  | .ptr => Option Addr
  | .slice => Option Addr × Nat × Nat
  | .map => Option Nat
  | .val => Value
def Cell.inj : (c : Cell) → c.T → Value
  | .bool, b => .bool b
  | .int k, n => .int k n
  | .string, s => .string s
  | .ptr, p => .pointer p
  | .slice, s => .slice s.1 s.2.1 s.2.2
  | .map, m => .map m
  | .val, v => v
def Cell.prj : (c : Cell) → Value → Option c.T
  | .bool, .bool b => some b
  | .int k, .int k' n => cond (decide (k = k')) (some n) none
  | .string, .string s => some s
  | .ptr, .pointer p => some p
  | .slice, .slice a n c => some (a, n, c)
  | .map, .map m => some m
  | .val, v => some v
  | _, _ => none
def CellsT : List Cell → Type
  | [] => Unit
  | c :: l => c.T × CellsT l
def cellsInj : (l : List Cell) → CellsT l → List Value
  | [], _ => []
  | c :: l, x => c.inj x.1 :: cellsInj l x.2
def cellsPrj : (l : List Cell) → List Value → Option (CellsT l)
  | [], [] => some ()
  | c :: l, v :: vs => match c.prj v, cellsPrj l vs with
    | some x, some y => some (x, y)
    | _, _ => none
  | _, _ => none
def Sh.T : Sh → Type
  | .cell c => c.T
  | .agg l => CellsT l
  | .raw => List Value
def Sh.inj : (s : Sh) → s.T → Value
  | .cell c, x => c.inj x
  | .agg l, x => .agg ⟨cellsInj l x⟩
  | .raw, x => .agg ⟨x⟩
def aggOf : Value → Option (List Value)
  | .agg cs => some cs.toList
  | _ => none
def tupOf : Value → Option (List Value)
  | .tuple cs => some cs.toList
  | _ => none
def Sh.prj : (s : Sh) → Value → Option s.T
  | .cell c, v => c.prj v
  | .agg l, v => match aggOf v with
    | some cs => cellsPrj l cs
    | none => none
  | .raw, v => aggOf v
def ShsT : List Sh → Type
  | [] => Unit
  | s :: l => s.T × ShsT l
def shsInj : (l : List Sh) → ShsT l → List Value
  | [], _ => []
  | s :: l, x => s.inj x.1 :: shsInj l x.2
def shsPrj : (l : List Sh) → List Value → Option (ShsT l)
  | [], [] => some ()
  | s :: l, v :: vs => match s.prj v, shsPrj l vs with
    | some x, some y => some (x, y)
    | _, _ => none
  | _, _ => none
/-- What a call hands back: nothing or one value or several. -/
inductive RSh where
  | one (s : Sh)
  | tuple (l : List Sh)
def RSh.T : RSh → Type
  | .one s => s.T
  | .tuple l => ShsT l
def RSh.inj : (r : RSh) → r.T → Value
  | .one s, x => s.inj x
  | .tuple l, x => .tuple ⟨shsInj l x⟩
def RSh.prj : (r : RSh) → Value → Option r.T
  | .one s, v => s.prj v
  | .tuple l, v => match tupOf v with
    | some vs => shsPrj l vs
    | none => none

/-! ### Slots -/
def look (t : Nat) : Slots → Option Value
  | [] => none
  | (u, v) :: l => cond (Nat.beq u t) (some v) (look t l)
def SlT (l : List (Nat × Sh)) : Type := ShsT (l.map (·.2))
def slPut : (l : List (Nat × Sh)) → ShsT (l.map (·.2)) → Slots → Slots
  | [], _, e => e
  | (t, s) :: l, x, e => (t, s.inj x.1) :: slPut l x.2 e
def slTake : (l : List (Nat × Sh)) → Slots → Option (ShsT (l.map (·.2)))
  | [], _ => some ()
  | (t, s) :: l, e => match (look t e).bind s.prj, slTake l e with
    | some x, some y => some (x, y)
    | _, _ => none
def drop (mods : List Nat) : Slots → Slots
  | [] => []
  | (u, v) :: l => cond (mods.any (Nat.beq u)) (drop mods l) ((u, v) :: drop mods l)

theorem Cell.inj_prj {c : Cell} {v : Value} {x : c.T} (h : c.prj v = some x) : c.inj x = v := by
  cases c with
  | bool => cases v <;> first | (exact congrArg _ (Option.some.inj h).symm) | (simp [Cell.prj] at h; done)
  | int k =>
    cases v <;> try (simp [Cell.prj] at h; done)
    rename_i k' n
    simp only [Cell.prj] at h
    by_cases e : k = k'
    · subst e
      simp only [decide_true, cond_true] at h
      exact congrArg _ (Option.some.inj h).symm
    · simp [e] at h
  | string => cases v <;> first | (exact congrArg _ (Option.some.inj h).symm) | (simp [Cell.prj] at h; done)
  | ptr => cases v <;> first | (exact congrArg _ (Option.some.inj h).symm) | (simp [Cell.prj] at h; done)
  | slice =>
    cases v <;> try (simp [Cell.prj] at h; done)
    have := Option.some.inj h
    exact this ▸ rfl
  | map => cases v <;> first | (exact congrArg _ (Option.some.inj h).symm) | (simp [Cell.prj] at h; done)
  | val => exact (Option.some.inj h).symm
theorem cellsInj_prj : ∀ {l : List Cell} {vs : List Value} {x : CellsT l}, cellsPrj l vs = some x → cellsInj l x = vs
  | [], [], _, _ => rfl
  | [], _ :: _, _, h => by simp [cellsPrj] at h
  | _ :: _, [], _, h => by simp [cellsPrj] at h
  | c :: l, v :: vs, x, h => by
    simp only [cellsPrj] at h
    split at h
    · rename_i a b ha hb
      obtain rfl := Option.some.inj h
      simp only [cellsInj, Cell.inj_prj ha, cellsInj_prj hb]
    · cases h
theorem aggOf_some {v : Value} {cs : List Value} (h : aggOf v = some cs) : v = .agg ⟨cs⟩ := by
  cases v <;> simp only [aggOf, reduceCtorEq, Option.some.injEq] at h
  subst h; rfl
theorem tupOf_some {v : Value} {cs : List Value} (h : tupOf v = some cs) : v = .tuple ⟨cs⟩ := by
  cases v <;> simp only [tupOf, reduceCtorEq, Option.some.injEq] at h
  subst h; rfl
theorem Sh.inj_prj {s : Sh} {v : Value} {x : s.T} (h : s.prj v = some x) : s.inj x = v := by
  cases s with
  | cell c => exact Cell.inj_prj h
  | agg l =>
    simp only [Sh.prj] at h
    split at h
    · rename_i cs hc
      rw [aggOf_some hc]
      exact congrArg (fun l => Value.agg ⟨l⟩) (cellsInj_prj h)
    · cases h
  | raw => exact (aggOf_some h).symm
theorem shsInj_prj : ∀ {l : List Sh} {vs : List Value} {x : ShsT l}, shsPrj l vs = some x → shsInj l x = vs
  | [], [], _, _ => rfl
  | [], _ :: _, _, h => by simp [shsPrj] at h
  | _ :: _, [], _, h => by simp [shsPrj] at h
  | s :: l, v :: vs, x, h => by
    simp only [shsPrj] at h
    split at h
    · rename_i a b ha hb
      obtain rfl := Option.some.inj h
      simp only [shsInj, Sh.inj_prj ha, shsInj_prj hb]
    · cases h
theorem RSh.inj_prj {r : RSh} {v : Value} {x : r.T} (h : r.prj v = some x) : r.inj x = v := by
  cases r with
  | one s => exact Sh.inj_prj h
  | tuple l =>
    simp only [RSh.prj] at h
    split at h
    · rename_i cs hc
      rw [tupOf_some hc]
      exact congrArg (fun l => Value.tuple ⟨l⟩) (shsInj_prj h)
    · cases h
end Go.Eng
