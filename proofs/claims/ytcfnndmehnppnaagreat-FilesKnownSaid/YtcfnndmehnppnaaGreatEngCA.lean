/-
  EngCA: checkpoints: what a run has come to, laid down as a literal: only the blocks that are named go on.
-/
import Derived.Test.YtcfnndmehnppnaaGreatEngX
namespace Go.Eng
open Go Go.RowKit

/-! ### Equality of values, by a look -/
def eqAddr : Option Addr → Option Addr → Bool
  | none, none => true
  | some a, some b => Nat.beq a.block b.block && Nat.beq a.off b.off && a.spot.isNone && b.spot.isNone
  | _, _ => false
theorem eqAddr_eq {a b : Option Addr} (h : eqAddr a b = true) : a = b := by
  cases a with
  | none => cases b <;> first | rfl | cases h
  | some a =>
    cases b with
    | none => cases h
    | some b =>
      simp only [eqAddr, Bool.and_eq_true, Option.isNone_iff_eq_none] at h
      obtain ⟨⟨⟨h1, h2⟩, h3⟩, h4⟩ := h
      obtain ⟨x, y, z⟩ := a
      obtain ⟨x', y', z'⟩ := b
      simp only at h1 h2 h3 h4
      rw [Nat.eq_of_beq_eq_true h1, Nat.eq_of_beq_eq_true h2, h3, h4]
def eqVs (p : Value → Value → Bool) : List Value → List Value → Bool
  | [], [] => true
  | x :: xs, y :: ys => p x y && eqVs p xs ys
  | _, _ => false
theorem eqVs_eq {p : Value → Value → Bool} (hp : ∀ x y, p x y = true → x = y) : ∀ {xs ys : List Value}, eqVs p xs ys = true → xs = ys
  | [], [], _ => rfl
  | [], _ :: _, h => by cases h
  | _ :: _, [], h => by cases h
  | x :: xs, y :: ys, h => by
    simp only [eqVs, Bool.and_eq_true] at h
    rw [hp x y h.1, eqVs_eq hp h.2]
def eqFn : Fn → Fn → Bool
  | .func f, .func g => Nat.beq f g
  | _, _ => false
def eqV : Nat → Value → Value → Bool
  | 0, _, _ => false
  | n + 1, x, y => match x, y with
    | .bool a, .bool b => a == b
    | .int k a, .int k' b => decide (k = k') && decide (a = b)
    | .string a, .string b => seq a b
    | .pointer a, .pointer b => eqAddr a b
    | .slice a i c, .slice b j d => eqAddr a b && Nat.beq i j && Nat.beq c d
    | .map a, .map b => decide (a = b)
    | .nilFunc, .nilFunc => true
    | .nilIface, .nilIface => true
    | .iface t x, .iface u y => Nat.beq t u && eqV n x y
    | .agg xs, .agg ys => eqVs (eqV n) xs.toList ys.toList
    | .tuple xs, .tuple ys => eqVs (eqV n) xs.toList ys.toList
    | .func f a b, .func g c d => eqFn f g && eqVs (eqV n) a.toList c.toList && eqVs (eqV n) b.toList d.toList
    | _, _ => false
theorem eqV_eq : ∀ (n : Nat) (x y : Value), eqV n x y = true → x = y
  | 0, _, _, h => by cases h
  | n + 1, x, y, h => by
    have ih := fun {xs ys : List Value} => eqVs_eq (p := eqV n) (eqV_eq n) (xs := xs) (ys := ys)
    unfold eqV at h
    split at h
    · rw [eq_of_beq h]
    · simp only [Bool.and_eq_true, decide_eq_true_eq] at h; rw [h.1, h.2]
    · rw [seq_iff.1 h]
    · rw [eqAddr_eq h]
    · simp only [Bool.and_eq_true] at h; rw [eqAddr_eq h.1.1, Nat.eq_of_beq_eq_true h.1.2, Nat.eq_of_beq_eq_true h.2]
    · rw [of_decide_eq_true h]
    · rfl
    · rfl
    · simp only [Bool.and_eq_true] at h; rw [Nat.eq_of_beq_eq_true h.1, eqV_eq n _ _ h.2]
    · rw [Array.ext' (ih h)]
    · rw [Array.ext' (ih h)]
    · rename_i f a b g c d
      simp only [Bool.and_eq_true] at h
      have hf : f = g := by
        have := h.1.1
        unfold eqFn at this
        split at this
        · rw [Nat.eq_of_beq_eq_true this]
        · cases this
      rw [hf, Array.ext' (ih h.1.2), Array.ext' (ih h.2)]
    · cases h
noncomputable section
/-! ### Objects -/
def eqEs : List MapEntry → List MapEntry → Bool
  | [], [] => true
  | x :: xs, y :: ys => eqV 4 x.key y.key && eqV 4 x.val y.val && Nat.beq x.born y.born && eqEs xs ys
  | _, _ => false
theorem eqEs_eq : ∀ {xs ys : List MapEntry}, eqEs xs ys = true → xs = ys
  | [], [], _ => rfl
  | [], _ :: _, h => by cases h
  | _ :: _, [], h => by cases h
  | x :: xs, y :: ys, h => by
    simp only [eqEs, Bool.and_eq_true] at h
    obtain ⟨⟨⟨h1, h2⟩, h3⟩, h4⟩ := h
    obtain ⟨a, b, c⟩ := x
    obtain ⟨a', b', c'⟩ := y
    simp only at h1 h2 h3
    rw [eqV_eq _ _ _ h1, eqV_eq _ _ _ h2, Nat.eq_of_beq_eq_true h3, eqEs_eq h4]
def Row.all (r : Row) : List Value := Row.readN r.z r.t r.n 0
theorem Row.all_eq (r : Row) : r.all = r.list := by
  have h := Row.read_eq r 0 r.n
  rw [Row.read_def, Row.bool_ble, if_pos (show Nat.add 0 r.n ≤ r.n by show 0 + r.n ≤ r.n; omega), if_pos (by rw [Row.list_length]; omega)] at h
  have h := Option.some.inj h
  rw [List.drop_zero, List.take_of_length_le (by rw [Row.list_length]; exact Nat.le_refl _)] at h
  exact h
def eqO (p : Value → Value → Bool) : Option Value → Option Value → Bool
  | none, none => true
  | some x, some y => p x y
  | _, _ => false
def eqT (p : Value → Value → Bool) : Tree Value → Tree Value → Bool
  | .leaf, .leaf => true
  | .node v l r, .node v' l' r' => eqO p v v' && eqT p l l' && eqT p r r'
  | _, _ => false
theorem eqT_eq {p : Value → Value → Bool} (hp : ∀ x y, p x y = true → x = y) : ∀ {t u : Tree Value}, eqT p t u = true → t = u
  | .leaf, .leaf, _ => rfl
  | .leaf, .node .., h => by cases h
  | .node .., .leaf, h => by cases h
  | .node v l r, .node v' l' r', h => by
    simp only [eqT, Bool.and_eq_true] at h
    have hv : v = v' := by
      have := h.1.1
      cases v <;> cases v' <;> first | rfl | (cases this; done) | exact congrArg some (hp _ _ this)
    rw [hv, eqT_eq hp h.1.2, eqT_eq hp h.2]
def eqRow (r r' : Row) : Bool := (Nat.beq r.n r'.n && eqVs (eqV 4) r.z r'.z && eqT (eqV 4) r.t r'.t) || eqVs (eqV 4) r.all r'.all
theorem eqRow_list {r r' : Row} (h : eqRow r r' = true) : r.list = r'.list := by
  simp only [eqRow, Bool.or_eq_true, Bool.and_eq_true] at h
  rcases h with ⟨⟨h1, h2⟩, h3⟩ | h
  · obtain ⟨n, z, t⟩ := r
    obtain ⟨n', z', t'⟩ := r'
    simp only at h1 h2 h3
    rw [Nat.eq_of_beq_eq_true h1, eqVs_eq (eqV_eq 4) h2, eqT_eq (eqV_eq 4) h3]
  · rw [← Row.all_eq, ← Row.all_eq]; exact eqVs_eq (eqV_eq 4) h
/-- A row: its length, its ground, what has been written. -/
def rg (n : Nat) (z : List Value) (l : List (Nat × Value)) : Row := ⟨n, z, l.foldl (fun t p => t.set p.1 (some p.2)) .leaf⟩
def rb (l : List Nat) : Row := Row.ofList (l.map fun n => .int .u8 (n : Nat))
def eqObj : AObj → AObj → Bool
  | .cells r e g fz ish, .cells r' e' g' fz' ish' => Nat.beq e e' && (g == g') && (ish == ish') && Nat.beq fz.1 fz'.1 && Nat.beq fz.2 fz'.2 && eqRow r r'
  | .iter s p, .iter s' p' => seq s s' && Nat.beq p p'
  | .map es c, .map es' c' => Nat.beq c c' && eqEs es es'
  | _, _ => false
theorem eqObj_R {P : Program} {φ : Phi} {ex : Nat} {o o' : AObj} {x : Obj} (h : eqObj o o' = true) (k : ObjR P φ ex o x) : ObjR P φ ex o' x := by
  cases o with
  | cells r e g fz ish =>
    cases o' with
    | cells r' e' g' fz' ish' =>
      simp only [eqObj, Bool.and_eq_true] at h
      obtain ⟨⟨⟨⟨⟨h1, h2⟩, h3⟩, h4⟩, h5⟩, h6⟩ := h
      obtain rfl := Nat.eq_of_beq_eq_true h1
      obtain rfl := eq_of_beq h2
      obtain rfl := eq_of_beq h3
      have hl : r.list = r'.list := eqRow_list h6
      have hf : fz = fz' := Prod.ext (Nat.eq_of_beq_eq_true h4) (Nat.eq_of_beq_eq_true h5)
      subst hf
      obtain ⟨arr, fz', k1, k2, k3, k4⟩ := k
      exact ⟨arr, fz', k1, by rw [← hl]; exact k2, by rw [← hl]; exact k3, k4⟩
    | _ => cases h
  | iter s p =>
    cases o' with
    | iter s' p' =>
      simp only [eqObj, Bool.and_eq_true] at h
      rw [← seq_iff.1 h.1, ← Nat.eq_of_beq_eq_true h.2]; exact k
    | _ => cases h
  | map es c =>
    cases o' with
    | map es' c' =>
      simp only [eqObj, Bool.and_eq_true] at h
      rw [← Nat.eq_of_beq_eq_true h.1, ← eqEs_eq h.2]; exact k
    | _ => cases h
  | loop r => cases o' <;> cases h

/-! ### Heaps -/
def lkObj : List (Nat × AObj) → Nat → Option AObj
  | [], _ => none
  | (b, o) :: l, c => if c = b then some o else lkObj l c
def layT : List (Nat × AObj) → Tree AObj
  | [] => .leaf
  | (b, o) :: l => (layT l).set b (some o)
def layW (os : List (Nat × AObj)) (next : Nat) : AW := { heap := layT os, next := next }
theorem layW_get (next : Nat) : ∀ (os : List (Nat × AObj)) (b : Nat), (layW os next).get b = lkObj os b
  | [], b => Tree.get_leaf b
  | (c, o) :: os, b => by
    have ih := layW_get next os b
    show ((layT os).set c (some o)).get b = _
    rw [Tree.get_set]
    unfold lkObj
    by_cases h : b = c
    · rw [if_pos h, if_pos h]
    · rw [if_neg h, if_neg h]; exact ih
def agrees (A : AW) (next : Nat) : List (Nat × AObj) → Bool
  | [] => Nat.beq A.next next
  | (b, o) :: l => (match A.get b with
    | some o' => eqObj o' o
    | none => false) && agrees A next l
theorem agrees_some {A : AW} {next : Nat} : ∀ {os : List (Nat × AObj)}, agrees A next os = true → A.next = next ∧ ∀ b o, lkObj os b = some o → ∃ o', A.get b = some o' ∧ eqObj o' o = true
  | [], h => ⟨Nat.eq_of_beq_eq_true h, fun b o hb => by cases hb⟩
  | (c, o) :: os, h => by
    simp only [agrees, Bool.and_eq_true] at h
    obtain ⟨h1, h2⟩ := agrees_some h.2
    refine ⟨h1, fun b x hb => ?_⟩
    unfold lkObj at hb
    by_cases e : b = c
    · subst e
      rw [if_pos rfl] at hb
      obtain rfl := Option.some.inj hb
      cases hg : A.get b with
      | none => rw [hg] at h; exact absurd h.1 (by simp)
      | some o' => rw [hg] at h; exact ⟨o', rfl, h.1⟩
    · rw [if_neg e] at hb; exact h2 b x hb
/-- The blocks that are named go on; all others are given up. -/
theorem Sim.lay {P : Program} {φ : Phi} {A : AW} {w : World} (h : Sim P φ A w) {os : List (Nat × AObj)} {next : Nat} (ha : agrees A next os = true) :
    ∃ ψ, Le φ ψ ∧ Sim P ψ (layW os next) w ∧ ∀ b c ex, ψ b = some (some (c, ex)) → φ b = some (some (c, ex)) := by
  obtain ⟨hn, hk⟩ := agrees_some ha
  obtain ⟨ψ, hψ⟩ : ∃ ψ : Phi, ψ = fun b => match lkObj os b with
    | some _ => φ b
    | none => (match φ b with
      | none => none
      | some _ => some none) := ⟨_, rfl⟩
  have hin : ∀ b o, lkObj os b = some o → ψ b = φ b := fun b o hb => by rw [hψ]; simp only [hb]
  have hout : ∀ b, lkObj os b = none → ψ b = (match φ b with
    | none => none
    | some _ => some none) := fun b hb => by rw [hψ]; simp only [hb]
  have hle : Le φ ψ := fun b x hx => by
    cases hb : lkObj os b with
    | some o => exact .inl (by rw [hin b o hb]; exact hx)
    | none => exact .inr (by rw [hout b hb, hx])
  have hback : ∀ b c ex, ψ b = some (some (c, ex)) → φ b = some (some (c, ex)) ∧ ∃ o, lkObj os b = some o := fun b c ex hb => by
    cases hl : lkObj os b with
    | some o => exact ⟨by rw [← hin b o hl]; exact hb, o, rfl⟩
    | none =>
      rw [hout b hl] at hb
      cases hφ : φ b <;> rw [hφ] at hb <;> simp at hb
  refine ⟨ψ, hle, ⟨fun b c ex hb => ?_, fun b b' c e e' h1 h2 => h.inj b b' c e e' (hback _ _ _ h1).1 (hback _ _ _ h2).1, fun b hb => ?_, fun b hb => ?_, fun b hb => ?_⟩, fun b c ex hb => (hback b c ex hb).1⟩
  · obtain ⟨h1, o, h2⟩ := hback b c ex hb
    obtain ⟨o', h3, h4⟩ := hk b o h2
    obtain ⟨x, y, k1, k2, k3⟩ := h.obj b c ex h1
    rw [h3] at k1
    obtain rfl := Option.some.inj k1
    exact ⟨o, y, by rw [layW_get, h2], k2, (eqObj_R h4 k3).mono hle⟩
  · have : φ b ≠ none := fun e => hb (by
      cases hl : lkObj os b with
      | some o => rw [hin b o hl, e]
      | none => rw [hout b hl, e])
    have := h.bound b this
    rw [hn] at this
    exact this
  · rw [layW_get]
    cases hl : lkObj os b with
    | none => rfl
    | some o =>
      obtain ⟨o', h3, _⟩ := hk b o hl
      rw [hin b o hl] at hb
      rw [h.dead b hb] at h3; cases h3
  · rw [layW_get]
    cases hl : lkObj os b with
    | none => rfl
    | some o =>
      obtain ⟨o', h3, _⟩ := hk b o hl
      rw [h.fresh b (by rw [hn]; exact hb)] at h3; cases h3
end
end Go.Eng
