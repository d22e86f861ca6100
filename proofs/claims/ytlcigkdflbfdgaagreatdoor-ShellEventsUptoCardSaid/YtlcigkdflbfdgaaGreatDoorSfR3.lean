/-
  Walks: R1, R2, R3.
-/
import Derived.Test.YtlcigkdflbfdgaaGreatDoorSfWV
import Derived.Test.YtlcigkdflbfdgaaGreatDoorSfW7
namespace Go.Proofs.YtlcigkdflbfdgaaGreatDoor.sf
set_option linter.unusedVariables false
open Go Go.Eng Go.Sh
section
variable {os : List (Nat × AObj)} {A : AW} {Q : Value → AW → Prop} {l : List Thing}
set_option maxRecDepth 20000 in
theorem refNameG (k : Int) : Gives (tabsOf os) (XX os) 1 42 [.int .i64 k] (.string (BA (nameV k))) := by
  intro A l Q hp H
  refine t42 (d := 0) (k, ()) fun n hn => ?_
  simp only [f42, f42c0]
  refine ev_new hp fun b A1 hp => ?_
  refine ev_store 0 hp rfl rfl (Nat.le_of_ble_eq_true (by kernel_rfl)) rfl fun A2 hp => ?_
  have hp : Hp (tabsOf os) A2 (.cells b (strs kindL) 121 false (0, 0) false :: l) := cast (by kernel_rfl) hp
  refine ev_join (fun j A' => Hp (tabsOf os) A' (.cells b (strs kindL) 121 false (0, 0) false :: l) ∧ j = (decide (k < 1 ∨ 22 ≤ k), ())) ?_ fun go hgo => ?_
  rotate_left
  · rw [ltB_eq, ltB_eq]
    refine ev_ite (fun h => ?_) fun h => ?_
    · rw [decide_eq_true_eq] at h
      exact hgo _ A2 ⟨hp, by rw [decide_eq_true (.inl h)]⟩
    · rw [decide_eq_false_iff_not] at h
      refine hgo _ A2 ⟨hp, ?_⟩
      congr 1
      exact decide_eq_decide.2 (by omega)
  rintro _ A3 ⟨hp, rfl⟩
  unfold nameV at H
  refine ev_ite (fun h => ?_) fun h => ?_
  · have h := of_decide_eq_true h
    rw [if_pos h] at H
    rw [show st0 = BA [] from rfl]
    exact ev_pure (H A3 hp.tail)
  · have h := of_decide_eq_false h
    rw [if_neg h] at H
    have hk : k.toNat < kindL.length := by rw [kindL_len]; omega
    refine ev_guard (by rw [inB_eq]; simp only [Bool.and_eq_true, decide_eq_true_eq]; omega) ?_
    refine cell_txt 0 hp rfl hk (ev_pure ?_)
    have e : kindL.getD k.toNat [] = kindL[k.toNat] := by rw [List.getD_eq_getElem?_getD, List.getElem?_eq_getElem hk]; rfl
    rw [e] at H
    exact H A3 hp.tail
theorem digit_val {v : Nat} (h : v < 10) : wrapW .u8 (addW .u64 48 (v : Int)) = ((UInt8.ofNat (48 + v)).toNat : Int) := by
  rw [addW_eq, digit_nat h, show (48 : Int) + (v : Int) = ((48 + v : Nat) : Int) by omega, wrap_nat (k := .u64) (by show 48 + v ≤ 18446744073709551615; omega), wrapW_nat (k := .u8) (by show 48 + v ≤ 255; omega)]
theorem digit_one {v : Nat} (h : v < 10) : ([.int .u8 (wrapW .u8 (addW .u64 48 (v : Int)))] : List Value) = u8s [UInt8.ofNat (48 + v)] := by
  rw [digit_val h]; rfl
theorem abs_u64 {n : Int} (h : -9223372036854775808 ≤ n ∧ n ≤ 9223372036854775807) : (if n < 0 then subW .u64 0 (wrapW .u64 n) else wrapW .u64 n) = ((n.natAbs : Nat) : Int) := by
  split
  · rw [subW_eq, wrapW_eq, IntKind.wrap_u64, IntKind.wrap_u64]; omega
  · rw [wrapW_eq, IntKind.wrap_u64]; omega
theorem refNumberG {x : Int} (hx : -9223372036854775808 ≤ x ∧ x ≤ 9223372036854775807) : Gives (tabsOf os) (XX os) 1 44 [.int .i64 x] (.string (BA (Lib.itoa x))) := by
  intro A l Q hp H
  refine t44 (d := 0) (x, ()) fun n hn => ?_
  unfold f44
  have habs := abs_u64 hx
  refine ev_join (fun j A' => Hp (tabsOf os) A' l ∧ j = (((x.natAbs : Nat) : Int), ())) ?_ fun go hgo => ?_
  rotate_left
  · rw [ltB_eq]
    refine ev_ite (fun h => ?_) fun h => ?_
    · have h := of_decide_eq_true h
      rw [if_pos h] at habs
      exact hgo _ A ⟨hp, by rw [← habs]⟩
    · have h := of_decide_eq_false h
      rw [if_neg h] at habs
      exact hgo _ A ⟨hp, by rw [← habs]⟩
  rintro _ A1 ⟨hp, rfl⟩
  unfold f44c0
  have hlen := digits_len 19 x.natAbs (by omega)
  refine ev_bind (ev_LL (fun μ st A' => ∃ (v : Nat) (t : List UInt8), μ = (Lib.decDigits v).length ∧ (Lib.decDigits v).length ≤ 20 ∧ v < 18446744073709551616 ∧ st = ((v : Int), BA t, ()) ∧ Lib.decDigits x.natAbs = Lib.decDigits v ++ t ∧ Hp (tabsOf os) A' l) (m := (Lib.decDigits x.natAbs).length) ⟨x.natAbs, [], rfl, by omega, by omega, rfl, by simp, hp⟩ (by omega) ?_)
  rintro μ st A2 ⟨v, t, rfl, hl, hv, rfl, hd, hp⟩
  have htl : t.length ≤ 20 := by
    have := congrArg List.length hd
    rw [List.length_append] at this
    omega
  simp only []
  rw [show (9 : Int) = ((9 : Nat) : Int) from rfl, ltB_nat]
  refine ev_ite (fun h => ?_) fun h => ?_
  · have h := of_decide_eq_true h
    refine ev_guard rfl ?_
    rw [show Int.tmod ((v : Nat) : Int) 10 = ((v % 10 : Nat) : Int) from rfl, show Int.tdiv ((v : Nat) : Int) 10 = ((v / 10 : Nat) : Int) from rfl, digit_one (Nat.mod_lt _ (by decide))]
    refine ev_new hp fun b A3 hp => ?_
    refine ev_toStr_row 0 hp rfl rfl ?_
    refine ev_guard (Nat.ble_eq_true_of_le (by show 1 + t.length ≤ _; omega)) (ev_guard rfl ?_)
    rw [BA_append, wrap_nat (k := .u64) (by show v / 10 ≤ 18446744073709551615; omega)]
    have e : Lib.decDigits v = Lib.decDigits (v / 10) ++ [UInt8.ofNat (48 + v % 10)] := by conv => lhs; rw [Lib.decDigits, dif_neg (by omega)]
    refine ev_pure ⟨(Lib.decDigits (v / 10)).length, ?_, v / 10, _, rfl, ?_, by omega, rfl, ?_, hp.tail⟩
    · rw [e, List.length_append]; simp
    · rw [e, List.length_append] at hl; omega
    · rw [hd, e, List.append_assoc]
  · have h := of_decide_eq_false h
    refine ev_pure ?_
    simp only [Round, M.sum]
    rw [digit_one (by omega)]
    refine ev_new hp fun b A3 hp => ?_
    refine ev_toStr_row 0 hp rfl rfl ?_
    refine ev_guard (Nat.ble_eq_true_of_le (by show 1 + t.length ≤ _; omega)) ?_
    have e : Lib.decDigits x.natAbs = [UInt8.ofNat (48 + v)] ++ t := by
      rw [hd]; conv => lhs; rw [Lib.decDigits, dif_pos (by omega)]
    rw [BA_append, ← e, ltB_eq]
    unfold Lib.itoa at H
    refine ev_ite (fun h2 => ?_) fun h2 => ?_
    · have h2 := of_decide_eq_true h2
      rw [if_pos h2] at H
      rw [show st47 = BA [45] from rfl]
      refine ev_guard (Nat.ble_eq_true_of_le (by show 1 + (Lib.decDigits x.natAbs).length ≤ _; omega)) ?_
      rw [BA_append]
      exact ev_pure (H A3 hp.tail)
    · have h2 := of_decide_eq_false h2
      rw [if_neg h2, show x.toNat = x.natAbs by omega] at H
      exact ev_pure (H A3 hp.tail)
noncomputable def shapeT (p : Bool × Bool × Bool × Bool × Bool) : Value := .tuple ⟨[.bool p.1, .bool p.2.1, .bool p.2.2.1, .bool p.2.2.2.1, .bool p.2.2.2.2]⟩
theorem refHasG (k : Int) : Gives (tabsOf os) (XX os) 1 41 [.int .i64 k] (shapeT (shapeV k)) := by
  intro A l Q hp H
  refine t41 (d := 0) (k, ()) fun n hn => ?_
  simp only [f41, f41c1, f41c0]
  have leaf : ∀ p q r s t : Bool, shapeV k = (p, q, r, s, t) → ∀ A1, Hp (tabsOf os) A1 l → Ev (M.pure (.tuple ⟨[.bool p, .bool q, .bool r, .bool s, .bool t]⟩)) A1 Q := fun p q r s t e A1 hp => by
    rw [e] at H
    exact ev_pure (H A1 hp)
  refine ev_join (fun j A' => Hp (tabsOf os) A' l ∧ j = (eqB k 1 || (eqB k 2 || (eqB k 4 || (eqB k 5 || (eqB k 10 || (eqB k 11 || eqB k 12))))), ())) ?_ fun go hgo => ?_
  rotate_left
  · refine ev_ite (fun h1 => hgo _ A ⟨hp, by rw [h1]; rfl⟩) fun h1 => ?_
    refine ev_ite (fun h2 => hgo _ A ⟨hp, by rw [h1, h2]; rfl⟩) fun h2 => ?_
    refine ev_ite (fun h3 => hgo _ A ⟨hp, by rw [h1, h2, h3]; rfl⟩) fun h3 => ?_
    refine ev_ite (fun h4 => hgo _ A ⟨hp, by rw [h1, h2, h3, h4]; rfl⟩) fun h4 => ?_
    refine ev_ite (fun h5 => hgo _ A ⟨hp, by rw [h1, h2, h3, h4, h5]; rfl⟩) fun h5 => ?_
    refine ev_ite (fun h6 => hgo _ A ⟨hp, by rw [h1, h2, h3, h4, h5, h6]; rfl⟩) fun h6 => ?_
    exact hgo _ A ⟨hp, by rw [h1, h2, h3, h4, h5, h6]; rfl⟩
  rintro _ A2 ⟨hp, rfl⟩
  refine ev_ite (fun h1 => leaf _ _ _ _ _ (by have h1 : (eqB k 1 || (eqB k 2 || (eqB k 4 || (eqB k 5 || (eqB k 10 || (eqB k 11 || eqB k 12)))))) = true := h1; unfold shapeV; rw [h1]; rfl) A2 hp) fun h1 => ?_
  have h1 : (eqB k 1 || (eqB k 2 || (eqB k 4 || (eqB k 5 || (eqB k 10 || (eqB k 11 || eqB k 12)))))) = false := h1
  refine ev_join (fun j A' => Hp (tabsOf os) A' l ∧ j = (eqB k 3 || eqB k 6, ())) ?_ fun go hgo => ?_
  rotate_left
  · refine ev_ite (fun h2 => hgo _ A2 ⟨hp, by rw [h2]; rfl⟩) fun h2 => hgo _ A2 ⟨hp, by rw [h2]; rfl⟩
  rintro _ A3 ⟨hp, rfl⟩
  refine ev_ite (fun h2 => leaf _ _ _ _ _ (by have h2 : (eqB k 3 || eqB k 6) = true := h2; unfold shapeV; rw [h1, h2]; rfl) A3 hp) fun h2 => ?_
  have h2 : (eqB k 3 || eqB k 6) = false := h2
  refine ev_ite (fun h3 => leaf _ _ _ _ _ (by unfold shapeV; rw [h1, h2, h3]; rfl) A3 hp) fun h3 => ?_
  refine ev_ite (fun h4 => leaf _ _ _ _ _ (by unfold shapeV; rw [h1, h2, h3, h4]; rfl) A3 hp) fun h4 => ?_
  refine ev_ite (fun h5 => leaf _ _ _ _ _ (by unfold shapeV; rw [h1, h2, h3, h4, h5]; rfl) A3 hp) fun h5 => ?_
  refine ev_join (fun j A' => Hp (tabsOf os) A' l ∧ j = (eqB k 15 || (eqB k 17 || (eqB k 18 || eqB k 19)), ())) ?_ fun go hgo => ?_
  rotate_left
  · refine ev_ite (fun h6 => hgo _ A3 ⟨hp, by rw [h6]; rfl⟩) fun h6 => ?_
    refine ev_ite (fun h7 => hgo _ A3 ⟨hp, by rw [h6, h7]; rfl⟩) fun h7 => ?_
    refine ev_ite (fun h8 => hgo _ A3 ⟨hp, by rw [h6, h7, h8]; rfl⟩) fun h8 => ?_
    exact hgo _ A3 ⟨hp, by rw [h6, h7, h8]; rfl⟩
  rintro _ A4 ⟨hp, rfl⟩
  refine ev_ite (fun h6 => leaf _ _ _ _ _ (by have h6 : (eqB k 15 || (eqB k 17 || (eqB k 18 || eqB k 19))) = true := h6; unfold shapeV; rw [h1, h2, h3, h4, h5, h6]; rfl) A4 hp) fun h6 => ?_
  have h6 : (eqB k 15 || (eqB k 17 || (eqB k 18 || eqB k 19))) = false := h6
  refine ev_ite (fun h7 => leaf _ _ _ _ _ (by unfold shapeV; rw [h1, h2, h3, h4, h5, h6, h7]; rfl) A4 hp) fun h7 => ?_
  exact leaf _ _ _ _ _ (by unfold shapeV; rw [h1, h2, h3, h4, h5, h6, h7]; rfl) A4 hp
end
end Go.Proofs.YtlcigkdflbfdgaaGreatDoor.sf
namespace Go.Proofs.YtlcigkdflbfdgaaGreatDoor.sf
set_option linter.unusedVariables false
open Go Go.Eng Go.Sh
/-- A blank is taken. -/
def blankV : List UInt8 → List UInt8 × Bool
  | [] => ([], true)
  | c :: t => if c = 32 then (t, false) else (c :: t, true)
/-- What stands up to the next blank, and from there on. -/
def lettersV (s : List UInt8) : List UInt8 × List UInt8 := match cutAt 32 s with
  | none => (s, [])
  | some p => (p.1, 32 :: p.2)
theorem letters_at {s : List UInt8} {i : Nat} (hi : i ≤ s.length) (h : (32 : UInt8) ∉ s.take i) (he : i = s.length ∨ s[i]? = some 32) : lettersV s = (s.take i, s.drop i) := by
  unfold lettersV
  rcases he with rfl | he
  · rw [List.take_length] at h ⊢
    rw [cutAt_of_not h, List.drop_length]
  · have hs : s = s.take i ++ 32 :: s.drop (i + 1) := by
      obtain ⟨hl, he⟩ := List.getElem?_eq_some_iff.1 he
      conv => lhs; rw [← List.take_append_drop i s, List.drop_eq_getElem_cons hl, he]
    have hd : s.drop i = 32 :: s.drop (i + 1) := by
      obtain ⟨hl, he⟩ := List.getElem?_eq_some_iff.1 he
      rw [List.drop_eq_getElem_cons hl, he]
    have hc := cutAt_app (l := s.take i) (s.drop (i + 1)) h
    rw [← hs] at hc
    rw [hc, hd]
/-- The document's word: its text, what is left, was there none? -/
def rwordV (s : List UInt8) : List UInt8 × List UInt8 × Bool := match unqG (blankV s).1 with
  | some p => (p.1, p.2, (blankV s).2)
  | none => ([], [], true)
def digsV : Nat → List UInt8 → Option Nat
  | a, [] => some a
  | a, c :: t => if 48 ≤ c.toNat ∧ c.toNat ≤ 57 then digsV (10 * a + (c.toNat - 48)) t else none
/-- What a numeral is read as; is it none? -/
noncomputable def numT (t : List UInt8) : Int × Bool :=
  if (if t.head? = some 45 then t.drop 1 else t) = [] ∨ 19 < (if t.head? = some 45 then t.drop 1 else t).length then (0, true) else match digsV 0 (if t.head? = some 45 then t.drop 1 else t) with
  | none => (0, true)
  | some u => (if t.head? = some 45 then wrapW .i64 (subW .u64 0 (u : Int)) else wrapW .i64 (u : Int), !decide (Lib.itoa (if t.head? = some 45 then wrapW .i64 (subW .u64 0 (u : Int)) else wrapW .i64 (u : Int)) = t))
noncomputable def rnumV (s : List UInt8) : Int × List UInt8 × Bool := ((numT (lettersV (blankV s).1).1).1, (lettersV (blankV s).1).2, (blankV s).2 || (numT (lettersV (blankV s).1).1).2)
noncomputable def rkindV (s : List UInt8) : Int × List UInt8 × Bool := if 1 ≤ idxV kindL (lettersV s).1 then (idxV kindL (lettersV s).1, (lettersV s).2, false) else (0, (lettersV s).2, true)
theorem blankV_cons (c : UInt8) (t : List UInt8) : blankV (c :: t) = if c = 32 then (t, false) else (c :: t, true) := rfl
theorem eqB_byteL (c d : UInt8) (n : Nat) (h : (OfNat.ofNat n : Nat) = d.toNat) : eqB (c.toNat : Int) (OfNat.ofNat n) = decide (c = d) := eqB_byte c d n h
theorem blankV_len (s : List UInt8) : (blankV s).1.length ≤ s.length := by
  cases s with
  | nil => exact Nat.le_refl _
  | cons c t =>
    rw [blankV_cons]
    split <;> simp
theorem lettersV_len (s : List UInt8) : (lettersV s).1.length ≤ s.length ∧ (lettersV s).2.length ≤ s.length := by
  unfold lettersV
  cases h : cutAt 32 s with
  | none => exact ⟨Nat.le_refl _, Nat.zero_le _⟩
  | some p =>
    have h1 := congrArg List.length (cutAt_some h).1
    rw [List.length_append, List.length_cons] at h1
    simp only [List.length_cons]
    omega
theorem wrap_i64' (n : Int) : IntKind.i64.wrap n = if 9223372036854775808 ≤ n % 18446744073709551616 then n % 18446744073709551616 - 18446744073709551616 else n % 18446744073709551616 := by
  simp [IntKind.wrap, IntKind.bits, IntKind.signed]
theorem wrap_in (n : Int) : -9223372036854775808 ≤ wrapW .i64 n ∧ wrapW .i64 n ≤ 9223372036854775807 := by
  rw [wrapW_eq, wrap_i64']
  split <;> omega
theorem numT_in (t : List UInt8) : -9223372036854775808 ≤ (numT t).1 ∧ (numT t).1 ≤ 9223372036854775807 := by
  unfold numT
  generalize (if t.head? = some 45 then t.drop 1 else t) = d
  by_cases h : d = [] ∨ 19 < d.length
  · rw [if_pos h]; simp
  · rw [if_neg h]
    cases digsV 0 d with
    | none => simp
    | some u =>
      by_cases hh : t.head? = some 45
      · simp only [if_pos hh]; exact wrap_in _
      · simp only [if_neg hh]; exact wrap_in _
section
variable {os : List (Nat × AObj)} {A : AW} {Q : Value → AW → Prop} {l : List Thing} {b : Nat} {e : TypeId} {g ish : Bool}
theorem rblankG (s : List UInt8) (bad : Bool) (hp : Hp (tabsOf os) A (rdr b e g ish s bad :: l)) (H : ∀ A', Hp (tabsOf os) A' (rdr b e g ish (blankV s).1 (bad || (blankV s).2) :: l) → Q (.tuple ⟨[]⟩) A') :
    Goes (XX os) 1 66 [.pointer (some ⟨b, 0, none⟩)] A Q := by
  refine t66 (d := 0) (some ⟨b, 0, none⟩, ()) fun n hn => ?_
  simp only [f66, f66c0]
  refine ev_join (fun j A' => Hp (tabsOf os) A' (rdr b e g ish s bad :: l) ∧ j = ((blankV s).2, ())) ?_ fun go hgo => ?_
  rotate_left
  · refine ev_load 0 hp rfl rfl rfl (Nat.le_of_ble_eq_true rfl) (x := BA s) rfl ?_
    cases s with
    | nil => exact ev_t rfl (hgo _ A ⟨hp, rfl⟩)
    | cons c t =>
      refine ev_f (by rw [BA_size, eqB_lit]; exact decide_eq_false (by simp)) ?_
      refine ev_load 0 hp rfl rfl rfl (Nat.le_of_ble_eq_true rfl) (x := BA (c :: t)) rfl ?_
      refine ev_guard (by rw [BA_size, inB_0]; exact decide_eq_true (by simp)) ?_
      refine hgo _ A ⟨hp, ?_⟩
      have e1 : byteAt (BA (c :: t)) 0 = (c.toNat : Int) := by rw [at_byteAt0]; rfl
      rw [e1, eqB_byteL c 32 32 rfl]
      rw [blankV_cons]
      by_cases hc : c = 32
      · rw [if_pos hc, decide_eq_true hc]; rfl
      · rw [if_neg hc, decide_eq_false hc]; rfl
  rintro _ A1 ⟨hp, rfl⟩
  refine ev_ite (fun h => ?_) fun h => ?_
  · have h : (blankV s).2 = true := h
    refine ev_store 0 hp rfl rfl (Nat.le_of_ble_eq_true rfl) rfl fun A2 hp => ev_pure (H A2 ?_)
    have e1 : (blankV s).1 = s := by
      cases s with
      | nil => rfl
      | cons c t =>
        rw [blankV_cons] at h ⊢
        split at h
        · cases h
        · rename_i hc; rw [if_neg hc]
    rw [h, e1, Bool.or_true]
    exact hp
  · have h : (blankV s).2 = false := h
    refine ev_load 0 hp rfl rfl rfl (Nat.le_of_ble_eq_true rfl) (x := BA s) rfl ?_
    cases s with
    | nil => cases h
    | cons c t =>
      refine ev_guard (by rw [BA_size, upB_1]; exact decide_eq_true (by simp)) ?_
      rw [show Int.toNat 1 = 1 from rfl, BA_from]
      refine ev_store 0 hp rfl rfl (Nat.le_of_ble_eq_true rfl) rfl fun A2 hp => ev_pure (H A2 ?_)
      rw [h, Bool.or_false]
      rw [blankV_cons] at h ⊢
      split at h
      · rename_i hc; rw [if_pos hc]; exact hp
      · cases h
theorem rlettersG (s : List UInt8) (bad : Bool) (hs : s.length < 2 ^ 38) (hp : Hp (tabsOf os) A (rdr b e g ish s bad :: l)) (H : ∀ A', Hp (tabsOf os) A' (rdr b e g ish (lettersV s).2 bad :: l) → Q (.string (BA (lettersV s).1)) A') :
    Goes (XX os) 1 67 [.pointer (some ⟨b, 0, none⟩)] A Q := by
  refine t67 (d := 0) (some ⟨b, 0, none⟩, ()) fun n hn => ?_
  simp only [f67, f67c0]
  refine ev_bind (ev_LL (fun μ st A' => ∃ i, μ = s.length - i ∧ i ≤ s.length ∧ st = (((i : Nat) : Int), ()) ∧ (32 : UInt8) ∉ s.take i ∧ Hp (tabsOf os) A' (rdr b e g ish s bad :: l)) (m := s.length) ⟨0, rfl, by omega, rfl, by simp, hp⟩ (by omega) ?_)
  rintro μ st A1 ⟨i, rfl, hi, rfl, hno, hp⟩
  have fin : ∀ A2, Hp (tabsOf os) A2 (rdr b e g ish s bad :: l) → (i = s.length ∨ s[i]? = some 32) → Ev (M.deref (some ⟨b, 0, none⟩) fun a13 => M.load (.cell .string) 1 (a13.add 0) fun (x14 : ByteArray) => M.guard (upB (i : Int) x14.size) (M.deref (some ⟨b, 0, none⟩) fun a17 =>
      M.load (.cell .string) 1 (a17.add 0) fun (x18 : ByteArray) => M.guard (upB (i : Int) x18.size) (M.deref (some ⟨b, 0, none⟩) fun a21 => M.store (a21.add 0) [(.string (x18.extract (Int.toNat (i : Int)) x18.size))] (M.pure (.string (x14.extract 0 (Int.toNat (i : Int)))))))) A2 Q := fun A2 hp he => by
    refine ev_load 0 hp rfl rfl rfl (Nat.le_of_ble_eq_true rfl) (x := BA s) rfl ?_
    refine ev_guard (by rw [upB_nat]; exact decide_eq_true hi) ?_
    refine ev_load 0 hp rfl rfl rfl (Nat.le_of_ble_eq_true rfl) (x := BA s) rfl ?_
    refine ev_guard (by rw [upB_nat]; exact decide_eq_true hi) ?_
    rw [Int.toNat_natCast, BA_from, BA_extract, List.drop_zero]
    have hl := letters_at hi hno he
    rw [hl] at H
    exact ev_store 0 hp rfl rfl (Nat.le_of_ble_eq_true rfl) rfl fun A3 hp => ev_pure (H A3 hp)
  refine ev_join (fun j A' => Hp (tabsOf os) A' (rdr b e g ish s bad :: l) ∧ ((j = (true, ()) ∧ ∃ c, s[i]? = some c ∧ c ≠ 32) ∨ (j = (false, ()) ∧ (i = s.length ∨ s[i]? = some 32)))) ?_ fun go hgo => ?_
  · rintro _ A2 ⟨hp, ⟨rfl, c, hc, hne⟩ | ⟨rfl, he⟩⟩
    · have hil := (List.getElem?_eq_some_iff.1 hc).1
      refine ev_t rfl (ev_pure ⟨s.length - (i + 1), by omega, i + 1, rfl, by omega, by rw [addW_1 (by omega)], ?_, hp⟩)
      rw [List.take_add_one, hc]
      simp only [Option.toList_some, List.mem_append, List.mem_singleton, not_or]
      exact ⟨hno, fun e => hne e.symm⟩
    · refine ev_f rfl (ev_pure ?_)
      exact fin A2 hp he
  · refine ev_load 0 hp rfl rfl rfl (Nat.le_of_ble_eq_true rfl) (x := BA s) rfl ?_
    rw [BA_size, ltB_nat]
    refine ev_ite (fun h => ?_) fun h => ?_
    · have h := of_decide_eq_true h
      refine ev_load 0 hp rfl rfl rfl (Nat.le_of_ble_eq_true rfl) (x := BA s) rfl ?_
      refine ev_guard (by rw [BA_size, inB_nat]; exact decide_eq_true h) ?_
      have e1 : byteAt (BA s) (i : Int) = ((s[i]).toNat : Int) := by
        rw [at_byteAt]
        unfold at'
        rw [List.getElem?_eq_getElem h]; rfl
      rw [e1, eqB_byteL _ 32 32 rfl]
      by_cases hc : s[i] = 32
      · exact hgo _ A1 ⟨hp, .inr ⟨by rw [decide_eq_true hc]; rfl, .inr (by rw [List.getElem?_eq_getElem h, hc])⟩⟩
      · exact hgo _ A1 ⟨hp, .inl ⟨by rw [decide_eq_false hc]; rfl, s[i], List.getElem?_eq_getElem h, hc⟩⟩
    · have h := of_decide_eq_false h
      exact hgo _ A1 ⟨hp, .inr ⟨rfl, .inl (by omega)⟩⟩
theorem rwordG (s : List UInt8) (bad : Bool) (hs : s.length < 2 ^ 36) (hp : Hp (tabsOf os) A (rdr b e g ish s bad :: l)) (H : ∀ A', Hp (tabsOf os) A' (rdr b e g ish (rwordV s).2.1 (bad || (rwordV s).2.2) :: l) → Q (.string (BA (rwordV s).1)) A') :
    Goes (XX os) 4 56 [.pointer (some ⟨b, 0, none⟩)] A Q := by
  refine t56 (d := 3) (some ⟨b, 0, none⟩, ()) fun n hn => ?_
  simp only [f56, f56c0]
  refine ((rblankG s bad hp fun A1 hp => ⟨(), rfl, ?_⟩).mono (show 1 ≤ 3 by decide)).use hn
  refine ev_load 0 hp rfl rfl rfl (Nat.le_of_ble_eq_true rfl) (x := BA (blankV s).1) rfl ?_
  have hl := blankV_len s
  unfold rwordV at H
  have hu := refUnquoteG (os := os) (blankV s).1 (by omega)
  rw [← unq_one] at hu
  cases hq : unqG (blankV s).1 with
  | none =>
    rw [hq] at hu H
    refine hu.use hn hp (x := (BA [], BA [], false, ())) rfl fun A2 hp => ?_
    refine ev_join (fun _ A' => Hp (tabsOf os) A' (rdr b e g ish (blankV s).1 true :: l)) ?_ fun go hgo => ?_
    · rintro _ A3 hp
      refine ev_store 0 hp rfl rfl (Nat.le_of_ble_eq_true rfl) rfl fun A4 hp => ev_pure (H A4 ?_)
      rw [Bool.or_true]
      exact hp
    · exact ev_t rfl (ev_store 0 hp rfl rfl (Nat.le_of_ble_eq_true rfl) rfl fun A3 hp => hgo () A3 hp)
  | some p =>
    rw [hq] at hu H
    refine hu.use hn hp (x := (BA p.1, BA p.2, true, ())) rfl fun A2 hp => ?_
    refine ev_join (fun _ A' => Hp (tabsOf os) A' (rdr b e g ish (blankV s).1 (bad || (blankV s).2) :: l)) ?_ fun go hgo => ?_
    · rintro _ A3 hp
      exact ev_store 0 hp rfl rfl (Nat.le_of_ble_eq_true rfl) rfl fun A4 hp => ev_pure (H A4 hp)
    · exact ev_f rfl (hgo () A2 hp)
theorem rkindG (s : List UInt8) (bad : Bool) (hs : s.length < 2 ^ 38) (hp : Hp (tabsOf os) A (rdr b e g ish s bad :: l)) (H : ∀ A', Hp (tabsOf os) A' (rdr b e g ish (rkindV s).2.1 (bad || (rkindV s).2.2) :: l) → Q (.int .i64 (rkindV s).1) A') :
    Goes (XX os) 2 55 [.pointer (some ⟨b, 0, none⟩)] A Q := by
  refine t55 (d := 1) (some ⟨b, 0, none⟩, ()) fun n hn => ?_
  simp only [f55, f55c0]
  refine (rlettersG s bad hs hp fun A1 hp => ⟨_, rfl, ?_⟩).use hn
  unfold rkindV at H
  generalize lettersV s = q at *
  obtain ⟨t, r⟩ := q
  simp only at *
  refine ev_bind (ev_LL (fun μ st A' => ∃ i : Nat, μ = 22 - i ∧ 1 ≤ i ∧ i ≤ 22 ∧ st = ((i : Int), ()) ∧ (∀ k : Nat, 1 ≤ k → k < i → nameV k ≠ t) ∧ Hp (tabsOf os) A' (rdr b e g ish r bad :: l)) (m := 21) ⟨1, rfl, by omega, by omega, rfl, fun k h1 h2 => by omega, hp⟩ (by omega) ?_)
  rintro μ st A2 ⟨i, rfl, h1, h22, rfl, hno, hp⟩
  rw [show (21 : Int) = ((21 : Nat) : Int) from rfl, leB_nat]
  refine ev_ite (fun h => ?_) fun h => ?_
  · have h := of_decide_eq_true h
    refine (refNameG (i : Int)).use hn hp rfl fun A3 hp => ?_
    rw [BA_seq]
    have hne : nameV (i : Int) ≠ [] := by
      have h3 := List.all_eq_true.1 kinds_ok i (List.mem_range.2 (by omega))
      simp only [Bool.and_eq_true, beq_iff_eq] at h3
      have h4 : decide (kindL.getD i [] = []) = decide (i = 0) := h3.1.1.2
      unfold nameV
      rw [if_neg (by omega)]
      rw [decide_eq_false (show ¬ i = 0 by omega)] at h4
      exact of_decide_eq_false h4
    refine ev_ite (fun h2 => ?_) fun h2 => ?_
    · have h2 := of_decide_eq_true h2
      obtain ⟨_, k2, _⟩ := kind_ok hne
      rw [h2] at k2
      rw [k2, if_pos (by omega)] at H
      refine ev_pure (ev_pure (H A3 ?_))
      rw [Bool.or_false]
      exact hp
    · have h2 := of_decide_eq_false h2
      refine ev_pure ⟨22 - (i + 1), by omega, i + 1, rfl, by omega, by omega, by rw [addW_1 (by omega)], fun k k1 k2 => ?_, hp⟩
      by_cases hk : k = i
      · subst hk; exact h2
      · exact hno k k1 (by omega)
  · have h := of_decide_eq_false h
    have hlt : ¬ 1 ≤ idxV kindL t := fun hc => by
      unfold idxV at hc
      split at hc
      · rename_i hm
        have hj := List.idxOf_lt_length_of_mem hm
        rw [kindL_len] at hj
        have hj2 : 1 ≤ kindL.idxOf t := by omega
        refine hno (kindL.idxOf t) hj2 (by omega) ?_
        unfold nameV
        rw [if_neg (by omega), Int.toNat_natCast, List.getD_eq_getElem?_getD, List.getElem?_eq_getElem (by rw [kindL_len]; exact hj)]
        exact List.getElem_idxOf _
      · omega
    rw [if_neg hlt] at H
    refine ev_pure ?_
    simp only [Round, M.sum]
    refine ev_store 0 hp rfl rfl (Nat.le_of_ble_eq_true rfl) rfl fun A3 hp => ev_pure (H A3 ?_)
    rw [Bool.or_true]
    exact hp
theorem digsV_app : ∀ (l m : List UInt8) (a v : Nat), digsV a l = some v → digsV a (l ++ m) = digsV v m
  | [], m, a, v, h => by
    obtain rfl := Option.some.inj h
    rfl
  | c :: r, m, a, v, h => by
    rw [List.cons_append]
    simp only [digsV] at h ⊢
    split at h
    · rename_i h1
      rw [if_pos h1]
      exact digsV_app r m _ v h
    · cases h
theorem digsV_none : ∀ (l : List UInt8) (a : Nat) (i : Nat) (c : UInt8), l[i]? = some c → ¬ (48 ≤ c.toNat ∧ c.toNat ≤ 57) → digsV a l = none
  | [], _, _, _, h, _ => by simp at h
  | d :: r, a, 0, c, h, hc => by
    obtain rfl := Option.some.inj h
    rw [digsV, if_neg hc]
  | d :: r, a, i + 1, c, h, hc => by
    rw [digsV]
    split
    · exact digsV_none r _ i c (by simpa using h) hc
    · rfl
theorem mul10 {u : Nat} (h : 10 * u < 18446744073709551616) : mulW .u64 10 (u : Int) = ((10 * u : Nat) : Int) := by
  rw [mulW_eq, show (10 : Int) * (u : Int) = ((10 * u : Nat) : Int) by omega]
  exact wrap_nat (k := .u64) (by show 10 * u ≤ 18446744073709551615; omega)
theorem rnumberG (s : List UInt8) (bad : Bool) (hs : s.length < 2 ^ 38) (hp : Hp (tabsOf os) A (rdr b e g ish s bad :: l)) (H : ∀ A', Hp (tabsOf os) A' (rdr b e g ish (rnumV s).2.1 (bad || (rnumV s).2.2) :: l) → Q (.int .i64 (rnumV s).1) A') :
    Goes (XX os) 2 57 [.pointer (some ⟨b, 0, none⟩)] A Q := by
  refine t57 (d := 1) (some ⟨b, 0, none⟩, ()) fun n hn => ?_
  unfold f57
  have hb := blankV_len s
  refine (rblankG s bad hp fun A1 hp => ⟨(), rfl, ?_⟩).use hn
  refine (rlettersG (blankV s).1 (bad || (blankV s).2) (by omega) hp fun A2 hp => ⟨_, rfl, ?_⟩).use hn
  have hll := (lettersV_len (blankV s).1).1
  unfold rnumV at H
  generalize (blankV s).2 = bb at *
  generalize lettersV (blankV s).1 = q at *
  obtain ⟨t, r⟩ := q
  simp only at *
  rw [← Bool.or_assoc] at H
  generalize (bad || bb) = bd at *
  obtain ⟨d, hd⟩ : ∃ d, d = if t.head? = some 45 then t.drop 1 else t := ⟨_, rfl⟩
  have hdl : d.length ≤ t.length := by
    rw [hd]; split
    · rw [List.length_drop]; omega
    · exact Nat.le_refl _
  have hneg : d.length < t.length ↔ t.head? = some 45 := by
    rw [hd]; split
    · rename_i h
      cases t with
      | nil => cases h
      | cons c t => simpa using h
    · rename_i h
      exact ⟨fun h1 => absurd h1 (Nat.lt_irrefl _), fun h1 => absurd h1 h⟩
  unfold numT at H
  rw [← hd] at H
  unfold f57c2
  refine ev_join (fun j A' => Hp (tabsOf os) A' (rdr b e g ish r bd :: l) ∧ j = (BA d, ())) ?_ fun go3 hgo3 => ?_
  rotate_left
  · refine ev_join (fun j A' => Hp (tabsOf os) A' (rdr b e g ish r bd :: l) ∧ j = (decide (t.head? = some 45), ())) ?_ fun go43 hgo43 => ?_
    rotate_left
    · rw [BA_size, ltB_lit']
      cases t with
      | nil => exact ev_f rfl (hgo43 _ A2 ⟨hp, rfl⟩)
      | cons c t =>
        refine ev_t (by simp) (ev_guard (by rw [inB_0]; exact decide_eq_true (by simp)) (hgo43 _ A2 ⟨hp, ?_⟩))
        have e1 : byteAt (BA (c :: t)) 0 = (c.toNat : Int) := by rw [at_byteAt0]; rfl
        rw [e1, eqB_byteL c 45 45 rfl]
        simp
    rintro _ A3 ⟨hp, rfl⟩
    refine ev_ite (fun h => ?_) fun h => ?_
    · have h := of_decide_eq_true h
      rw [if_pos h] at hd
      refine ev_guard (by rw [BA_size, upB_1]; exact decide_eq_true (by cases t with | nil => cases h | cons c t => simp)) ?_
      rw [show Int.toNat 1 = 1 from rfl, BA_from, ← hd]
      exact hgo3 _ A3 ⟨hp, rfl⟩
    · have h := of_decide_eq_false h
      rw [if_neg h] at hd
      rw [← hd]
      exact hgo3 _ A3 ⟨hp, rfl⟩
  rintro _ A3 ⟨hp, rfl⟩
  refine ev_join (fun j A' => Hp (tabsOf os) A' (rdr b e g ish r bd :: l) ∧ j = (decide (d = [] ∨ 19 < d.length), ())) ?_ fun go5 hgo5 => ?_
  rotate_left
  · simp only [BA_size]
    rw [eqB_lit, ltB_lit']
    refine ev_ite (fun h => ?_) fun h => ?_
    · have h := of_decide_eq_true h
      exact hgo5 _ A3 ⟨hp, by rw [decide_eq_true (.inl (List.eq_nil_of_length_eq_zero h))]⟩
    · have h := of_decide_eq_false h
      refine hgo5 _ A3 ⟨hp, ?_⟩
      congr 1
      exact decide_eq_decide.2 ⟨fun h1 => .inr h1, fun h1 => h1.resolve_left fun e => h (by rw [e]; rfl)⟩
  rintro _ A4 ⟨hp, rfl⟩
  refine ev_ite (fun h => ?_) fun h => ?_
  · have h := of_decide_eq_true h
    rw [if_pos h] at H
    refine ev_store 0 hp rfl rfl (Nat.le_of_ble_eq_true rfl) rfl fun A5 hp => ev_pure (H A5 ?_)
    rw [Bool.or_true]
    exact hp
  have h := of_decide_eq_false h
  rw [if_neg h] at H
  have h19 : d.length ≤ 19 := by
    by_cases h9 : 19 < d.length
    · exact absurd (.inr h9) h
    · omega
  unfold f57c1
  refine ev_bind (ev_LL (fun μ st A' => ∃ (i u : Nat), μ = d.length - i ∧ i ≤ d.length ∧ st = ((u : Int), (i : Int), ()) ∧ u < 10 ^ i ∧ digsV 0 d = digsV u (d.drop i) ∧ Hp (tabsOf os) A' (rdr b e g ish r bd :: l)) (m := d.length) ⟨0, 0, rfl, by omega, rfl, by decide, by simp, hp⟩ (by omega) ?_)
  rintro μ st A5 ⟨i, u, rfl, hi, rfl, hu, hdg, hp⟩
  simp only [BA_size, ltB_nat]
  unfold f57c0
  refine ev_ite (fun h1 => ?_) fun h1 => ?_
  · have h1 := of_decide_eq_true h1
    have e1 : byteAt (BA d) (i : Int) = ((d[i]).toNat : Int) := by
      rw [at_byteAt]
      unfold at'
      rw [List.getElem?_eq_getElem h1]; rfl
    have hdc : d.drop i = d[i] :: d.drop (i + 1) := List.drop_eq_getElem_cons h1
    refine ev_join (fun j A' => Hp (tabsOf os) A' (rdr b e g ish r bd :: l) ∧ j = (!decide (48 ≤ (d[i]).toNat ∧ (d[i]).toNat ≤ 57), ())) ?_ fun go11 hgo11 => ?_
    rotate_left
    · refine ev_guard (by rw [BA_size, inB_nat]; exact decide_eq_true h1) ?_
      rw [e1, ltB_lit]
      refine ev_ite (fun h2 => ?_) fun h2 => ?_
      · have h2 := of_decide_eq_true h2
        exact hgo11 _ A5 ⟨hp, by rw [decide_eq_false (by omega)]; rfl⟩
      · have h2 := of_decide_eq_false h2
        refine ev_guard (by rw [BA_size, inB_nat]; exact decide_eq_true h1) ?_
        rw [ltB_lit']
        refine hgo11 _ A5 ⟨hp, ?_⟩
        by_cases h3 : 57 < (d[i]).toNat
        · rw [decide_eq_true h3, decide_eq_false (by omega)]; rfl
        · rw [decide_eq_false h3, decide_eq_true (by omega)]; rfl
    rintro _ A6 ⟨hp, rfl⟩
    refine ev_ite (fun h2 => ?_) fun h2 => ?_
    · have h2 : (!decide (48 ≤ (d[i]).toNat ∧ (d[i]).toNat ≤ 57)) = true := h2
      rw [Bool.not_eq_true'] at h2
      have h2 := of_decide_eq_false h2
      rw [digsV_none d 0 i d[i] (List.getElem?_eq_getElem h1) h2] at H
      refine ev_store 0 hp rfl rfl (Nat.le_of_ble_eq_true rfl) rfl fun A7 hp => ev_pure (ev_pure (H A7 ?_))
      rw [Bool.or_true]
      exact hp
    · have h2 : (!decide (48 ≤ (d[i]).toNat ∧ (d[i]).toNat ≤ 57)) = false := h2
      rw [Bool.not_eq_false'] at h2
      have h2 := of_decide_eq_true h2
      refine ev_guard (by rw [BA_size, inB_nat]; exact decide_eq_true h1) ?_
      have hp10 : 10 ^ (i + 1) ≤ 10 ^ 19 := Nat.pow_le_pow_right (by decide) (by omega)
      have hu1 : 10 * u + ((d[i]).toNat - 48) < 10 ^ (i + 1) := by rw [Nat.pow_succ]; omega
      have hlt := (d[i]).toNat_lt
      rw [e1, mul10 (by omega), show (48 : Int) = ((48 : Nat) : Int) from rfl, subW_u8 h2.1 (by omega), wrapW_nat (k := .u64) (by show _ ≤ 18446744073709551615; omega), addW_eq, show ((10 * u : Nat) : Int) + (((d[i]).toNat - 48 : Nat) : Int) = ((10 * u + ((d[i]).toNat - 48) : Nat) : Int) by omega, wrap_nat (k := .u64) (by show _ ≤ 18446744073709551615; omega)]
      refine ev_pure ⟨d.length - (i + 1), by omega, i + 1, 10 * u + ((d[i]).toNat - 48), rfl, by omega, by rw [addW_1 (by omega)], hu1, ?_, hp⟩
      rw [hdg, hdc, digsV, if_pos h2]
  · have h1 := of_decide_eq_false h1
    rw [List.drop_of_length_le (by omega)] at hdg
    have hdg : digsV 0 d = some u := hdg
    rw [hdg] at H
    refine ev_pure ?_
    simp only [Round, M.sum]
    obtain ⟨z, hz⟩ : ∃ z, z = if t.head? = some 45 then wrapW .i64 (subW .u64 0 (u : Int)) else wrapW .i64 (u : Int) := ⟨_, rfl⟩
    have hzi : -9223372036854775808 ≤ z ∧ z ≤ 9223372036854775807 := by
      rw [hz]; split <;> exact wrap_in _
    simp only [← hz] at H
    refine ev_join (fun j A' => Hp (tabsOf os) A' (rdr b e g ish r bd :: l) ∧ j = (z, ())) ?_ fun go26 hgo26 => ?_
    rotate_left
    · refine ev_ite (fun h2 => ?_) fun h2 => ?_
      · have h2 := hneg.1 (of_decide_eq_true h2)
        rw [if_pos h2] at hz
        exact hgo26 _ A5 ⟨hp, by rw [hz]⟩
      · have h2 : ¬ t.head? = some 45 := fun h3 => of_decide_eq_false h2 (hneg.2 h3)
        rw [if_neg h2] at hz
        exact hgo26 _ A5 ⟨hp, by rw [hz]⟩
    rintro _ A6 ⟨hp, rfl⟩
    refine ev_join (fun _ A' => Hp (tabsOf os) A' (rdr b e g ish r (bd || !decide (Lib.itoa z = t)) :: l)) ?_ fun go28 hgo28 => ?_
    · rintro _ A7 hp
      exact ev_pure (H A7 hp)
    refine (refNumberG hzi).use hn hp rfl fun A7 hp => ?_
    rw [BA_seq]
    refine ev_ite (fun h2 => ?_) fun h2 => ?_
    · rw [h2] at hgo28
      refine ev_store 0 hp rfl rfl (Nat.le_of_ble_eq_true rfl) rfl fun A8 hp => hgo28 () A8 ?_
      rw [Bool.or_true]
      exact hp
    · rw [h2, Bool.or_false] at hgo28
      exact hgo28 () A7 hp
end
end Go.Proofs.YtlcigkdflbfdgaaGreatDoor.sf
namespace Go.Proofs.YtlcigkdflbfdgaaGreatDoor.sf
set_option linter.unusedVariables false
open Go Go.Eng Go.Sh
section
variable {os : List (Nat × AObj)} {A : AW} {Q : Value → AW → Prop} {l D : List Thing} {X : XT} {L : LoopI}
abbrev R5 := (Bool) × (Bool) × (Bool) × (Bool) × (Bool) × Unit
section
variable {b0 t0 : Nat} {y : Bool × Bool × Bool × Bool × Bool} {x : Evt} {d : SL} {go : ((Bool) × Unit) → M (Value)}
theorem rl_t5 (hp : Hp (tabsOf os) A (.cells b0 (evtC x d) t0 false (0, 0) false :: l)) (h : Ev (go ((!y.2.2.2.2 && ltB 0 ((d.2.1 : Nat) : Int)), ())) A Q) :
    Ev (M.ite (!y.2.2.2.2) (M.load (.cell .slice) 1 ((Addr.mk b0 0 none).add 5) fun (z : SL) => go ((ltB 0 ((z.2.1 : Nat) : Int)), ())) (go (false, ()))) A Q := by
  cases hy : y.2.2.2.2 with
  | true => rw [hy] at h; exact ev_f rfl h
  | false => rw [hy] at h; exact ev_t rfl (ev_load 0 hp rfl rfl rfl (Nat.le_of_ble_eq_true rfl) (x := d) rfl h)
theorem rl_t4 (hp : Hp (tabsOf os) A (.cells b0 (evtC x d) t0 false (0, 0) false :: l)) (h : Ev (go (((!y.2.2.2.1 && !eqB x.b 0) || (!y.2.2.2.2 && ltB 0 ((d.2.1 : Nat) : Int))), ())) A Q) :
    Ev (M.ite (!y.2.2.2.1) (M.load (.cell (.int .i64)) 1 ((Addr.mk b0 0 none).add 4) fun (z : Int) => M.ite (!(eqB z 0)) (go (true, ())) (M.ite (!y.2.2.2.2) (M.load (.cell .slice) 1 ((Addr.mk b0 0 none).add 5) fun (z : SL) => go ((ltB 0 ((z.2.1 : Nat) : Int)), ())) (go (false, ()))))
      (M.ite (!y.2.2.2.2) (M.load (.cell .slice) 1 ((Addr.mk b0 0 none).add 5) fun (z : SL) => go ((ltB 0 ((z.2.1 : Nat) : Int)), ())) (go (false, ())))) A Q := by
  cases hy : y.2.2.2.1 with
  | true => rw [hy] at h; exact ev_f rfl (rl_t5 hp h)
  | false =>
    rw [hy] at h
    refine ev_t rfl (ev_load 0 hp rfl rfl rfl (Nat.le_of_ble_eq_true rfl) (x := x.b) rfl ?_)
    refine ev_ite (fun h1 => ?_) fun h1 => ?_
    · rw [h1] at h; exact h
    · rw [h1] at h; exact rl_t5 hp h
theorem rl_c4 (hp : Hp (tabsOf os) A (.cells b0 (evtC x d) t0 false (0, 0) false :: l)) (v : Bool) (h : Ev (go (((v && !eqB x.a 0) || ((!y.2.2.2.1 && !eqB x.b 0) || (!y.2.2.2.2 && ltB 0 ((d.2.1 : Nat) : Int)))), ())) A Q) :
    Ev (f20c4 X L b0 (y.1, y.2.1, y.2.2.1, y.2.2.2.1, y.2.2.2.2, ()) go v) A Q := by
  unfold f20c4
  cases v with
  | false => exact ev_f rfl (rl_t4 hp h)
  | true =>
    refine ev_t rfl (ev_load 0 hp rfl rfl rfl (Nat.le_of_ble_eq_true rfl) (x := x.a) rfl ?_)
    unfold f20c3
    refine ev_ite (fun h1 => ?_) fun h1 => ?_
    · rw [h1] at h; exact h
    · rw [h1] at h; exact rl_t4 hp h
theorem rl_c11 (hp : Hp (tabsOf os) A (.cells b0 (evtC x d) t0 false (0, 0) false :: l)) (v : Bool)
    (h : Ev (go (((v && !decide (x.p = [])) || ((!y.2.1 && !decide (x.q = [])) || ((!y.2.2.1 && !eqB x.a 0) || ((!y.2.2.2.1 && !eqB x.b 0) || (!y.2.2.2.2 && ltB 0 ((d.2.1 : Nat) : Int)))))), ())) A Q) :
    Ev (f20c11 X L b0 (y.1, y.2.1, y.2.2.1, y.2.2.2.1, y.2.2.2.2, ()) go v) A Q := by
  unfold f20c11
  have q : Ev (go (((!y.2.1 && !decide (x.q = [])) || ((!y.2.2.1 && !eqB x.a 0) || ((!y.2.2.2.1 && !eqB x.b 0) || (!y.2.2.2.2 && ltB 0 ((d.2.1 : Nat) : Int))))), ())) A Q →
      Ev (M.ite (!y.2.1) (M.load (.cell .string) 1 ((Addr.mk b0 0 none).add 2) fun (z : ByteArray) => M.ite (!(seq z st0)) (go (true, ())) (f20c4 X L b0 (y.1, y.2.1, y.2.2.1, y.2.2.2.1, y.2.2.2.2, ()) go (!y.2.2.1)))
        (f20c4 X L b0 (y.1, y.2.1, y.2.2.1, y.2.2.2.1, y.2.2.2.2, ()) go (!y.2.2.1))) A Q := fun h => by
    rw [show st0 = BA [] from rfl]
    cases hy : y.2.1 with
    | true => rw [hy] at h; have := rl_c4 (X := X) (L := L) (y := y) hp _ h; rw [hy] at this; exact ev_f rfl this
    | false =>
      rw [hy] at h
      refine ev_t rfl (ev_load 0 hp rfl rfl rfl (Nat.le_of_ble_eq_true rfl) (x := BA x.q) rfl ?_)
      rw [BA_seq]
      refine ev_ite (fun h1 => ?_) fun h1 => ?_
      · rw [h1] at h; exact h
      · rw [h1] at h; have := rl_c4 (X := X) (L := L) (y := y) hp _ h; rw [hy] at this; exact this
  cases v with
  | false => exact ev_f rfl (q h)
  | true =>
    refine ev_t rfl (ev_load 0 hp rfl rfl rfl (Nat.le_of_ble_eq_true rfl) (x := BA x.p) rfl ?_)
    rw [show st0 = BA [] from rfl] at q ⊢
    rw [BA_seq]
    refine ev_ite (fun h1 => ?_) fun h1 => ?_
    · rw [h1] at h; exact h
    · rw [h1] at h; exact q h
end
/-- One part more. -/
theorem rpart {k : (ByteArray × Unit) → M Value} {t : List Thing} (is : Bool) (s part : List UInt8) {m : (ByteArray → M Value) → M Value} (hs : s.length + part.length < 2 ^ 40) (hp : Hp (tabsOf os) A t)
    (hm : ∀ K : ByteArray → M Value, (∀ A', Hp (tabsOf os) A' t → Ev (K (BA part)) A' Q) → Ev (m K) A Q) (hk : ∀ A', Hp (tabsOf os) A' t → Ev (k (BA (putV is s part), ())) A' Q) :
    Ev (M.join k fun go => M.ite is (M.guard (Nat.ble ((BA s).size + st14.size) 9223372036854775807) (m fun r => M.guard (Nat.ble ((BA s ++ st14).size + r.size) 9223372036854775807) (go (((BA s ++ st14) ++ r), ())))) (go (BA s, ()))) A Q := by
  refine ev_join (fun j A' => Hp (tabsOf os) A' t ∧ j = (BA (putV is s part), ())) ?_ fun go hgo => ?_
  · rintro _ A1 ⟨hp, rfl⟩
    exact hk A1 hp
  · rw [show st14 = BA [32] from rfl]
    cases is with
    | false => exact ev_f rfl (hgo _ A ⟨hp, rfl⟩)
    | true =>
      refine ev_t rfl (ev_guard (Nat.ble_eq_true_of_le (by show s.length + 1 ≤ _; omega)) (hm _ fun A1 hp => ?_))
      rw [BA_append]
      refine ev_guard (Nat.ble_eq_true_of_le (by simp only [BA_size, List.length_append, List.length_cons, List.length_nil]; omega)) ?_
      rw [BA_append]
      refine hgo _ A1 ⟨hp, ?_⟩
      simp [putV]
theorem refLineG (x : Evt) (d : SL) (hsee : SeesB (tabsOf os) D d.1 d.2.1 x.data) (hD : ∀ t ∈ D, t ∈ l) (hx : SmallE x) (hp : Hp (tabsOf os) A l)
    (H : ∀ A', Hp (tabsOf os) A' l → Q (.tuple ⟨[.string (BA ((lineO x).getD [])), .bool (lineO x).isSome]⟩) A') : Goes (XX os) 3 20 [.agg ⟨evtC x d⟩] A Q := by
  refine t20 (d := 2) ((x.kind, BA x.p, BA x.q, x.a, x.b, d, ()), ()) fun n hn => ?_
  unfold f20
  refine ev_new hp fun b0 A1 hp => ?_
  obtain ⟨t0, hp⟩ : ∃ t0, Hp (tabsOf os) A1 (.cells b0 (evtC x d) t0 false (0, 0) false :: l) := ⟨_, hp⟩
  refine ev_load 0 hp rfl rfl rfl (Nat.le_of_ble_eq_true rfl) (x := x.kind) rfl ?_
  unfold f20c12
  obtain ⟨y, hy⟩ : ∃ y, y = shapeV x.kind := ⟨_, rfl⟩
  have hlo : lineO x = if notE x then none else some (putV y.2.2.2.2 (putV y.2.2.2.1 (putV y.2.2.1 (putV y.2.1 (putV y.1 (nameV x.kind) (word x.p)) (word x.q)) (Lib.itoa x.a)) (Lib.itoa x.b)) (word x.data)) := by
    rw [hy]; rfl
  have hne : notE x = (decide (nameV x.kind = []) || ((!y.1 && !decide (x.p = [])) || ((!y.2.1 && !decide (x.q = [])) || ((!y.2.2.1 && !eqB x.a 0) || ((!y.2.2.2.1 && !eqB x.b 0) || (!y.2.2.2.2 && ltB 0 ((d.2.1 : Nat) : Int))))))) := by
    rw [hy, hsee.1]; rfl
  have hhas := refHasG (os := os) x.kind
  rw [← hy] at hhas
  clear hy
  refine (hhas.mono (show 1 ≤ 2 by decide)).use hn hp (x := (y.1, y.2.1, y.2.2.1, y.2.2.2.1, y.2.2.2.2, ())) rfl fun A2 hp => ?_
  refine ev_load 0 hp rfl rfl rfl (Nat.le_of_ble_eq_true rfl) (x := x.kind) rfl ?_
  refine ((refNameG x.kind).mono (show 1 ≤ 2 by decide)).use hn hp rfl fun A3 hp => ?_
  refine ev_join (fun j A' => Hp (tabsOf os) A' (.cells b0 (evtC x d) t0 false (0, 0) false :: l) ∧ j = (notE x, ())) ?_ fun go hgo => ?_
  rotate_left
  · have h := hgo (notE x, ()) A3 ⟨hp, rfl⟩
    rw [hne] at h
    rw [show st0 = BA [] from rfl, BA_seq]
    refine ev_ite (fun h1 => ?_) fun h1 => ?_
    · rw [h1] at h; exact h
    · rw [h1] at h
      exact rl_c11 (X := XX os n) (L := LL) hp _ h
  rintro _ A4 ⟨hp, rfl⟩
  refine ev_ite (fun h => ?_) fun h => ?_
  · have h : notE x = true := h
    rw [hlo, if_pos h] at H
    rw [show st0 = BA [] from rfl]
    exact ev_pure (H A4 hp.tail)
  have h : notE x = false := h
  rw [hlo, if_neg (by rw [h]; decide)] at H
  have w1 := word_le x.p
  have w2 := word_le x.q
  have w3 := word_le x.data
  have i1 := itoa_len hx.nums.1
  have i2 := itoa_len hx.nums.2
  have n1 := nameV_len x.kind
  have z1 := hx.p
  have z2 := hx.q
  have z3 := hx.data
  have p1 := putV_len y.1 (nameV x.kind) (word x.p)
  have p2 := putV_len y.2.1 (putV y.1 (nameV x.kind) (word x.p)) (word x.q)
  have p3 := putV_len y.2.2.1 (putV y.2.1 (putV y.1 (nameV x.kind) (word x.p)) (word x.q)) (Lib.itoa x.a)
  have p4 := putV_len y.2.2.2.1 (putV y.2.2.1 (putV y.2.1 (putV y.1 (nameV x.kind) (word x.p)) (word x.q)) (Lib.itoa x.a)) (Lib.itoa x.b)
  unfold f20c2
  refine rpart (os := os) (t := .cells b0 (evtC x d) t0 false (0, 0) false :: l) y.1 (nameV x.kind) (word x.p) (m := fun K => M.load (.cell .string) 1 ((Addr.mk b0 0 none).add 1) fun (z : ByteArray) => M.callS (.one (.cell .string)) (XX os n (.call 43 [(.string z)])) fun (r : ByteArray) => K r) (by omega) hp (fun K hK => ?_) fun A5 hp => ?_
  · refine ev_load 0 hp rfl rfl rfl (Nat.le_of_ble_eq_true rfl) (x := BA x.p) rfl ?_
    exact (refQuoteG x.p (by omega)).use hn hp rfl fun A5 hp => hK A5 hp
  refine rpart (os := os) (t := .cells b0 (evtC x d) t0 false (0, 0) false :: l) y.2.1 _ (word x.q) (m := fun K => M.load (.cell .string) 1 ((Addr.mk b0 0 none).add 2) fun (z : ByteArray) => M.callS (.one (.cell .string)) (XX os n (.call 43 [(.string z)])) fun (r : ByteArray) => K r) (by omega) hp (fun K hK => ?_) fun A6 hp => ?_
  · refine ev_load 0 hp rfl rfl rfl (Nat.le_of_ble_eq_true rfl) (x := BA x.q) rfl ?_
    exact (refQuoteG x.q (by omega)).use hn hp rfl fun A5 hp => hK A5 hp
  unfold f20c1
  refine rpart (os := os) (t := .cells b0 (evtC x d) t0 false (0, 0) false :: l) y.2.2.1 _ (Lib.itoa x.a) (m := fun K => M.load (.cell (.int .i64)) 1 ((Addr.mk b0 0 none).add 3) fun (z : Int) => M.callS (.one (.cell .string)) (XX os n (.call 44 [(.int .i64 z)])) fun (r : ByteArray) => K r) (by omega) hp (fun K hK => ?_) fun A7 hp => ?_
  · refine ev_load 0 hp rfl rfl rfl (Nat.le_of_ble_eq_true rfl) (x := x.a) rfl ?_
    exact ((refNumberG hx.nums.1).mono (show 1 ≤ 2 by decide)).use hn hp rfl fun A5 hp => hK A5 hp
  refine rpart (os := os) (t := .cells b0 (evtC x d) t0 false (0, 0) false :: l) y.2.2.2.1 _ (Lib.itoa x.b) (m := fun K => M.load (.cell (.int .i64)) 1 ((Addr.mk b0 0 none).add 4) fun (z : Int) => M.callS (.one (.cell .string)) (XX os n (.call 44 [(.int .i64 z)])) fun (r : ByteArray) => K r) (by omega) hp (fun K hK => ?_) fun A8 hp => ?_
  · refine ev_load 0 hp rfl rfl rfl (Nat.le_of_ble_eq_true rfl) (x := x.b) rfl ?_
    exact ((refNumberG hx.nums.2).mono (show 1 ≤ 2 by decide)).use hn hp rfl fun A5 hp => hK A5 hp
  unfold f20c0
  refine rpart (os := os) (t := .cells b0 (evtC x d) t0 false (0, 0) false :: l) y.2.2.2.2 _ (word x.data) (m := fun K => M.load (.cell .slice) 1 ((Addr.mk b0 0 none).add 5) fun (z : SL) => M.toStr z.1 z.2.1 fun s => M.callS (.one (.cell .string)) (XX os n (.call 43 [(.string s)])) fun (r : ByteArray) => K r) (by omega) hp (fun K hK => ?_) fun A9 hp => ?_
  · refine ev_load 0 hp rfl rfl rfl (Nat.le_of_ble_eq_true rfl) (x := d) rfl ?_
    refine ev_see hp (fun t ht => .tail _ (hD t ht)) hsee ?_
    exact (refQuoteG x.data (by omega)).use hn hp rfl fun A5 hp => hK A5 hp
  exact ev_pure (H A9 hp.tail)
theorem refTextG {a : Option Addr} {c : Nat} {L : List Value} {xs : List Evt} (hro : RowsAt (tabsOf os) D a xs.length 6 L) (hall : AllAt (EvtAt (tabsOf os) D) 6 L xs) (hD : ∀ t ∈ D, t ∈ l) (hf : ∀ x ∈ xs, SmallE x) (hn : xs.length < 2 ^ 38) (hW : (catV lineV xs).length < 2 ^ 38) (hp : Hp (tabsOf os) A l)
    (H : ∀ A', Hp (tabsOf os) A' l → Q (.tuple ⟨[.string (BA (textR lineO xs).1), .int .i64 (textR lineO xs).2]⟩) A') : Goes (XX os) 4 6 [.slice a xs.length c] A Q := by
  refine t6 (d := 3) ((a, xs.length, c), ()) fun n hn' => ?_
  unfold f6 f6c1
  refine ev_bind (ev_LL (fun μ st A' => ∃ i a', μ = xs.length - i ∧ i ≤ xs.length ∧ st = ((a', (catV lineV (xs.take i)).length, (catV lineV (xs.take i)).length), ((i : Nat) : Int), ()) ∧ Hp (tabsOf os) A' (bts (a', (catV lineV (xs.take i)).length, (catV lineV (xs.take i)).length) (catV lineV (xs.take i)) l) ∧ ∀ x ∈ xs.take i, lineO x = some (lineV x)) (m := xs.length)
    ⟨0, none, rfl, by omega, rfl, hp.vec0 5 1 false, by simp⟩ (by omega) ?_)
  rintro μ st A2 ⟨i, a', rfl, hi, rfl, hp, hok⟩
  simp only [ltB_nat]
  refine ev_ite (fun h => ?_) fun h => ?_
  · have h := of_decide_eq_true h
    refine ev_guard ((inB_nat i _).trans (decide_eq_true h)) ?_
    obtain ⟨b1, rfl⟩ := hro.some (hp.has fun t ht => .tail _ (hD t ht)) h
    obtain ⟨d, hc, hsee⟩ := hall.2 i h
    have hx := hf xs[i] (List.getElem_mem _)
    have hle := catV_le lineV xs (i + 1)
    rw [catV_next lineV h, List.length_append, List.length_append] at hle
    have hnx := catV_next lineV h
    have hmem : xs[i] ∈ xs := List.getElem_mem _
    have htk : xs.take (i + 1) = xs.take i ++ [xs[i]] := by rw [List.take_add_one, List.getElem?_eq_getElem h]; rfl
    refine ev_rec (i := i) hp (fun t ht => .tail _ (hD t ht)) hro h (x := (xs[i].kind, BA xs[i].p, BA xs[i].q, xs[i].a, xs[i].b, d, ())) (by rw [hc]; rfl) ?_
    unfold f6c0
    generalize xs[i] = x at *
    refine (refLineG x d hsee (fun t ht => .tail _ (hD t ht)) hx hp fun A5 hp => ⟨(BA ((lineO x).getD []), (lineO x).isSome, ()), rfl, ?_⟩).use hn'
    cases hl : lineO x with
    | none =>
      refine ev_t rfl (ev_pure (ev_pure ?_))
      have : textR lineO xs = ([], 1) := by unfold textR; rw [write_none lineO hmem hl]
      rw [this] at H
      exact H A5 hp.tail
    | some t =>
      obtain rfl : t = lineV x := by
        unfold lineO at hl
        split at hl
        · cases hl
        · exact (Option.some.inj hl).symm
      refine ev_f rfl ?_
      have h1 : [(10 : UInt8)].length = 1 := rfl
      simp only [Option.getD_some]
      refine ev_bytes_str (lineV x) hp (by omega) fun A6 a6 n6 hp => ?_
      refine ev_bytes (sl := (a6, n6, n6)) [10] hp rfl rfl (by rw [List.length_append]; omega) fun A7 a7 n7 hp => ?_
      have hn7 := bts_len hp
      simp only at hn7
      have he : catV lineV (xs.take i) ++ lineV x ++ [10] = catV lineV (xs.take (i + 1)) := by rw [hnx, List.append_assoc]
      rw [he] at hp hn7
      subst hn7
      refine ev_pure ⟨xs.length - (i + 1), by omega, i + 1, a7, rfl, by omega, by rw [addW_1 (by omega)], hp, fun y hy => ?_⟩
      rw [htk] at hy
      rcases List.mem_append.1 hy with hy | hy
      · exact hok y hy
      · rw [List.mem_singleton.1 hy]; exact hl
  · have h := of_decide_eq_false h
    rw [List.take_of_length_le (by omega)] at hp hok ⊢
    refine ev_pure ?_
    simp only [Round, M.sum]
    have hw := write_all lineV lineO xs hok
    rw [ltB_lit']
    refine ev_ite (fun h2 => ?_) fun h2 => ?_
    · have h2 := of_decide_eq_true h2
      have : textR lineO xs = ([], 3) := by unfold textR; rw [hw]; exact if_pos h2
      rw [this] at H
      exact ev_pure (H A2 hp.tail)
    · have h2 := of_decide_eq_false h2
      have : textR lineO xs = (catV lineV xs, 0) := by unfold textR; rw [hw]; exact if_neg h2
      rw [this] at H
      exact ev_toStr 0 hp rfl (ev_pure (H A2 hp.tail))
end
end Go.Proofs.YtlcigkdflbfdgaaGreatDoor.sf
