/-
 The engine, part 25: what a function of the program comes to over an abstract heap; each part is proved against the model.
-/
import Derived.Test.YtlcigkdflbfdgaaGreatDoorEng24
import Derived.Below
import Derived.ChangeSame
namespace Go.Eng
open Go Go.RowKit
structure Entry where
 sh : List Sh
 tx : (Task → M Value) → ShsT sh → M Value
noncomputable def Entry.run (e : Entry) (C : Cfg) (L : LoopI) (X : Task → M Value) (f : FuncId) (args : List Value) : M Value := match shsPrj e.sh args with
 | some x => e.tx X x
 | none => evBody C { call := X, loop := L } f args
def Entry.ok (C : Cfg) (L : LoopI) (f : Nat) (e : Entry) : Prop := ∀ X x, evBody C { call := X, loop := L } f (shsInj e.sh x) = e.tx X x
def AllT {α : Type} (P : Nat → α → Prop) : Tree α → Nat → Nat → Prop
 | .leaf, _, _ => True
 | .node v l r, lo, st => (∀ a, v = some a → P lo a) ∧ AllT P l (lo + st) (2 * st) ∧ AllT P r (lo + 2 * st) (2 * st)
theorem AllT.get {α : Type} {P : Nat → α → Prop} : ∀ {t : Tree α} {lo st : Nat}, AllT P t lo st → ∀ k a, t.get k = some a → P (lo + st * k) a
 | .leaf, _, _, _, k, _, h => by rw [Tree.get_leaf] at h; cases h
 | .node v l r, lo, st, ⟨h0, h1, h2⟩, k, a, h => by
  rw [Tree.get_node] at h
  by_cases hk : k = 0
  ·rw [if_pos hk] at h; rw [hk]; exact h0 a h
  ·rw [if_neg hk] at h
   by_cases ho : k % 2 = 1
   ·rw [if_pos ho] at h
    have := AllT.get h1 _ a h
    have e : lo + st + 2 * st * (k / 2) = lo + st * k := by
     have e1 : st * k = st * (2 * (k / 2) + 1) := by congr 1; omega
     rw [e1, Nat.mul_add, ← Nat.mul_assoc, Nat.mul_comm st 2]; omega
    rwa [e] at this
   ·rw [if_neg ho] at h
    have := AllT.get h2 _ a h
    have e : lo + 2 * st + 2 * st * (k / 2 - 1) = lo + st * k := by
     have e1 : st * k = st * (2 * (k / 2 - 1) + 2) := by congr 1; omega
     rw [e1, Nat.mul_add, ← Nat.mul_assoc, Nat.mul_comm st 2]; omega
    rwa [e] at this
theorem AllT.mk {α : Type} {P : Nat → α → Prop} {v : Option α} {l r : Tree α} {lo st lo1 lo2 st2 : Nat} (h0 : ∀ a, v = some a → P lo a) (hl : AllT P l lo1 st2) (hr : AllT P r lo2 st2) (e1 : lo + st = lo1) (e2 : lo + 2 * st = lo2) (e3 : 2 * st = st2) :
  AllT P (.node v l r) lo st := by
 subst e1; subst e2; subst e3
 exact ⟨h0, hl, hr⟩
theorem AllT.leaf {α : Type} {P : Nat → α → Prop} (lo st : Nat) : AllT P (.leaf : Tree α) lo st := trivial
noncomputable def mkEntry (L : LoopI) (sh : List Sh) (tx : (Task → M Value) → LoopI → ShsT sh → M Value) : Entry := { sh := sh, tx := fun X x => tx X L x }
theorem okOf {C : Cfg} {L : LoopI} {f : Nat} {sh : List Sh} {tx : (Task → M Value) → LoopI → ShsT sh → M Value} (h : ∀ (X : Task → M Value) (L : LoopI) x, evBody C { call := X, loop := L } f (shsInj sh x) = tx X L x) :
  Entry.ok C L f (mkEntry L sh tx) := fun X x => h X L x
theorem allSome {α : Type} {P : Nat → α → Prop} {n : Nat} {x : α} (h : P n x) : ∀ a, some x = some a → P n a := fun a e => by cases e; exact h
theorem allNone {α : Type} {P : Nat → α → Prop} {n : Nat} : ∀ a, (none : Option α) = some a → P n a := fun a e => by cases e
def Lw (k : Nat) : LoopI := fun f s => whileN f k s
theorem lok_whileN (k : Nat) : LOk (Lw k) := fun _ _ _ _ h _ => ⟨k, h⟩
end Go.Eng
namespace Go.Eng
open Go
def ExtAt (P : Program) (p : Nat × Ext) : Prop :=
 ∃ fn, P.funcs[p.1]? = some fn ∧ (fn.name == "runtime.NumGoroutine") = false ∧ fn.body.isNone = true ∧ Extern.findNext fn = none ∧ Extern.find fn = some (extFn p.2)
def ExtsAt (P : Program) : List (Nat × Ext) → Prop
 | [] => True
 | p :: l => ExtAt P p ∧ ExtsAt P l
theorem extsAt_lookup {P : Program} : ∀ {l : List (Nat × Ext)} {g : Nat} {e : Ext}, ExtsAt P l → l.lookup g = some e → ExtAt P (g, e)
 | [], _, _, _, h => by simp at h
 | (g', e') :: l, g, e, ⟨h1, h2⟩, h => by
  simp only [List.lookup_cons] at h
  cases hb : g == g' with
  | true =>
   rw [hb] at h
   simp only [Option.some.injEq] at h
   obtain rfl := eq_of_beq hb
   rw [← h]; exact h1
  | false => rw [hb] at h; exact extsAt_lookup h2 h
theorem cok_exts {C : Cfg} {l : List (Nat × Ext)} (h1 : C.P.funcs.toList.all (fun fn => !(fn.name == "runtime.NumGoroutine")) = true) (h2 : ∀ g, C.ext g = l.lookup g) (h3 : C.P.follows .mixedOrders = true) (h4 : ExtsAt C.P l) : COk C where
 name := fun f fn hf _ => by
  have hm : fn ∈ C.P.funcs.toList := by
   obtain ⟨hlt, rfl⟩ := Array.getElem?_eq_some_iff.1 hf
   simp
  have := List.all_eq_true.1 h1 fn hm
  simpa using this
 ext := fun g e he => by rw [h2 g] at he; exact extsAt_lookup h4 he
 mixed := h3
end Go.Eng
