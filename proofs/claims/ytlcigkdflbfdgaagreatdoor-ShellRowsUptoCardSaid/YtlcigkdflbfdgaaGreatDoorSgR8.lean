/-
 Walks: R1, R2, R8.
-/
import Derived.Test.YtlcigkdflbfdgaaGreatDoorSgWV
import Derived.Test.YtlcigkdflbfdgaaGreatDoorSgW7
namespace Go.Proofs.YtlcigkdflbfdgaaGreatDoor.sg
set_option linter.unusedVariables false
open Go Go.Eng Go.Sh
section
variable {os : List (Nat × AObj)} {A : AW} {Q : Value → AW → Prop} {l : List Thing}
set_option maxRecDepth 20000 in
theorem refNameG (k : Int) : Gives (tabsOf os) (XX os) 1 42 [.int .i64 k] (.string (BA (nameV k))) := by
 intro A l Q hp H
 refine t42 (d := 0) (k, ()) fun n hn => ?_
 simp only [f42, f42c0]
 refine ev_new hp fun b A1 hp => ?_
 refine ev_store 0 hp rfl rfl (Nat.le_of_ble_eq_true (by kernel_rfl)) rfl fun A2 hp => ?_
 have hp : Hp (tabsOf os) A2 (.cells b (strs kindL) 121 false (0, 0) false :: l) := cast (by kernel_rfl) hp
 refine ev_join (fun j A' => Hp (tabsOf os) A' (.cells b (strs kindL) 121 false (0, 0) false :: l) ∧ j = (decide (k < 1 ∨ 22 ≤ k), ())) ?_ fun go hgo => ?_
 rotate_left
 ·rw [ltB_eq, ltB_eq]
  refine ev_ite (fun h => ?_) fun h => ?_
  ·rw [decide_eq_true_eq] at h
   exact hgo _ A2 ⟨hp, by rw [decide_eq_true (.inl h)]⟩
  ·rw [decide_eq_false_iff_not] at h
   refine hgo _ A2 ⟨hp, ?_⟩
   congr 1
   exact decide_eq_decide.2 (by omega)
 rintro _ A3 ⟨hp, rfl⟩
 unfold nameV at H
 refine ev_ite (fun h => ?_) fun h => ?_
 ·have h := of_decide_eq_true h
  rw [if_pos h] at H
  rw [show st0 = BA [] from rfl]
  exact ev_pure (H A3 hp.tail)
 ·have h := of_decide_eq_false h
  rw [if_neg h] at H
  have hk : k.toNat < kindL.length := by rw [kindL_len]; omega
  refine ev_guard (by rw [inB_eq]; simp only [Bool.and_eq_true, decide_eq_true_eq]; omega) ?_
  refine cell_txt 0 hp rfl hk (ev_pure ?_)
  have e : kindL.getD k.toNat [] = kindL[k.toNat] := by rw [List.getD_eq_getElem?_getD, List.getElem?_eq_getElem hk]; rfl
  rw [e] at H
  exact H A3 hp.tail
theorem digit_val {v : Nat} (h : v < 10) : wrapW .u8 (addW .u64 48 (v : Int)) = ((UInt8.ofNat (48 + v)).toNat : Int) := by
 rw [addW_eq, digit_nat h, show (48 : Int) + (v : Int) = ((48 + v : Nat) : Int) by omega, wrap_nat (k := .u64) (by show 48 + v ≤ 18446744073709551615; omega), wrapW_nat (k := .u8) (by show 48 + v ≤ 255; omega)]
theorem digit_one {v : Nat} (h : v < 10) : ([.int .u8 (wrapW .u8 (addW .u64 48 (v : Int)))] : List Value) = u8s [UInt8.ofNat (48 + v)] := by
 rw [digit_val h]; rfl
theorem abs_u64 {n : Int} (h : -9223372036854775808 ≤ n ∧ n ≤ 9223372036854775807) : (if n < 0 then subW .u64 0 (wrapW .u64 n) else wrapW .u64 n) = ((n.natAbs : Nat) : Int) := by
 split
 ·rw [subW_eq, wrapW_eq, IntKind.wrap_u64, IntKind.wrap_u64]; omega
 ·rw [wrapW_eq, IntKind.wrap_u64]; omega
theorem refNumberG {x : Int} (hx : -9223372036854775808 ≤ x ∧ x ≤ 9223372036854775807) : Gives (tabsOf os) (XX os) 1 44 [.int .i64 x] (.string (BA (Lib.itoa x))) := by
 intro A l Q hp H
 refine t44 (d := 0) (x, ()) fun n hn => ?_
 unfold f44
 have habs := abs_u64 hx
 refine ev_join (fun j A' => Hp (tabsOf os) A' l ∧ j = (((x.natAbs : Nat) : Int), ())) ?_ fun go hgo => ?_
 rotate_left
 ·rw [ltB_eq]
  refine ev_ite (fun h => ?_) fun h => ?_
  ·have h := of_decide_eq_true h
   rw [if_pos h] at habs
   exact hgo _ A ⟨hp, by rw [← habs]⟩
  ·have h := of_decide_eq_false h
   rw [if_neg h] at habs
   exact hgo _ A ⟨hp, by rw [← habs]⟩
 rintro _ A1 ⟨hp, rfl⟩
 unfold f44c0
 have hlen := digits_len 19 x.natAbs (by omega)
 refine ev_bind (ev_LL (fun μ st A' => ∃ (v : Nat) (t : List UInt8), μ = (Lib.decDigits v).length ∧ (Lib.decDigits v).length ≤ 20 ∧ v < 18446744073709551616 ∧ st = ((v : Int), BA t, ()) ∧ Lib.decDigits x.natAbs = Lib.decDigits v ++ t ∧ Hp (tabsOf os) A' l) (m := (Lib.decDigits x.natAbs).length) ⟨x.natAbs, [], rfl, by omega, by omega, rfl, by simp, hp⟩ (by omega) ?_)
 rintro μ st A2 ⟨v, t, rfl, hl, hv, rfl, hd, hp⟩
 have htl : t.length ≤ 20 := by
  have := congrArg List.length hd
  rw [List.length_append] at this
  omega
 simp only []
 rw [show (9 : Int) = ((9 : Nat) : Int) from rfl, ltB_nat]
 refine ev_ite (fun h => ?_) fun h => ?_
 ·have h := of_decide_eq_true h
  refine ev_guard rfl ?_
  rw [show Int.tmod ((v : Nat) : Int) 10 = ((v % 10 : Nat) : Int) from rfl, show Int.tdiv ((v : Nat) : Int) 10 = ((v / 10 : Nat) : Int) from rfl, digit_one (Nat.mod_lt _ (by decide))]
  refine ev_new hp fun b A3 hp => ?_
  refine ev_toStr_row 0 hp rfl rfl ?_
  refine ev_guard (Nat.ble_eq_true_of_le (by show 1 + t.length ≤ _; omega)) (ev_guard rfl ?_)
  rw [BA_append, wrap_nat (k := .u64) (by show v / 10 ≤ 18446744073709551615; omega)]
  have e : Lib.decDigits v = Lib.decDigits (v / 10) ++ [UInt8.ofNat (48 + v % 10)] := by conv => lhs; rw [Lib.decDigits, dif_neg (by omega)]
  refine ev_pure ⟨(Lib.decDigits (v / 10)).length, ?_, v / 10, _, rfl, ?_, by omega, rfl, ?_, hp.tail⟩
  ·rw [e, List.length_append]; simp
  ·rw [e, List.length_append] at hl; omega
  ·rw [hd, e, List.append_assoc]
 ·have h := of_decide_eq_false h
  refine ev_pure ?_
  simp only [Round, M.sum]
  rw [digit_one (by omega)]
  refine ev_new hp fun b A3 hp => ?_
  refine ev_toStr_row 0 hp rfl rfl ?_
  refine ev_guard (Nat.ble_eq_true_of_le (by show 1 + t.length ≤ _; omega)) ?_
  have e : Lib.decDigits x.natAbs = [UInt8.ofNat (48 + v)] ++ t := by
   rw [hd]; conv => lhs; rw [Lib.decDigits, dif_pos (by omega)]
  rw [BA_append, ← e, ltB_eq]
  unfold Lib.itoa at H
  refine ev_ite (fun h2 => ?_) fun h2 => ?_
  ·have h2 := of_decide_eq_true h2
   rw [if_pos h2] at H
   rw [show st47 = BA [45] from rfl]
   refine ev_guard (Nat.ble_eq_true_of_le (by show 1 + (Lib.decDigits x.natAbs).length ≤ _; omega)) ?_
   rw [BA_append]
   exact ev_pure (H A3 hp.tail)
  ·have h2 := of_decide_eq_false h2
   rw [if_neg h2, show x.toNat = x.natAbs by omega] at H
   exact ev_pure (H A3 hp.tail)
end
end Go.Proofs.YtlcigkdflbfdgaaGreatDoor.sg
namespace Go.Proofs.YtlcigkdflbfdgaaGreatDoor.sg
set_option linter.unusedVariables false
open Go Go.Eng Go.Sh
/-- A blank is taken. -/
def blankV : List UInt8 → List UInt8 × Bool
 | [] => ([], true)
 | c :: t => if c = 32 then (t, false) else (c :: t, true)
/-- What stands up to the next blank, and from there on. -/
def lettersV (s : List UInt8) : List UInt8 × List UInt8 := match cutAt 32 s with
 | none => (s, [])
 | some p => (p.1, 32 :: p.2)
theorem letters_at {s : List UInt8} {i : Nat} (hi : i ≤ s.length) (h : (32 : UInt8) ∉ s.take i) (he : i = s.length ∨ s[i]? = some 32) : lettersV s = (s.take i, s.drop i) := by
 unfold lettersV
 rcases he with rfl | he
 ·rw [List.take_length] at h ⊢
  rw [cutAt_of_not h, List.drop_length]
 ·have hs : s = s.take i ++ 32 :: s.drop (i + 1) := by
   obtain ⟨hl, he⟩ := List.getElem?_eq_some_iff.1 he
   conv => lhs; rw [← List.take_append_drop i s, List.drop_eq_getElem_cons hl, he]
  have hd : s.drop i = 32 :: s.drop (i + 1) := by
   obtain ⟨hl, he⟩ := List.getElem?_eq_some_iff.1 he
   rw [List.drop_eq_getElem_cons hl, he]
  have hc := cutAt_app (l := s.take i) (s.drop (i + 1)) h
  rw [← hs] at hc
  rw [hc, hd]
/-- The document's word: its text, what is left, was there none? -/
def rwordV (s : List UInt8) : List UInt8 × List UInt8 × Bool := match unqG (blankV s).1 with
 | some p => (p.1, p.2, (blankV s).2)
 | none => ([], [], true)
def digsV : Nat → List UInt8 → Option Nat
 | a, [] => some a
 | a, c :: t => if 48 ≤ c.toNat ∧ c.toNat ≤ 57 then digsV (10 * a + (c.toNat - 48)) t else none
/-- What a numeral is read as; is it none? -/
noncomputable def numT (t : List UInt8) : Int × Bool :=
 if (if t.head? = some 45 then t.drop 1 else t) = [] ∨ 19 < (if t.head? = some 45 then t.drop 1 else t).length then (0, true) else match digsV 0 (if t.head? = some 45 then t.drop 1 else t) with
 | none => (0, true)
 | some u => (if t.head? = some 45 then wrapW .i64 (subW .u64 0 (u : Int)) else wrapW .i64 (u : Int), !decide (Lib.itoa (if t.head? = some 45 then wrapW .i64 (subW .u64 0 (u : Int)) else wrapW .i64 (u : Int)) = t))
noncomputable def rnumV (s : List UInt8) : Int × List UInt8 × Bool := ((numT (lettersV (blankV s).1).1).1, (lettersV (blankV s).1).2, (blankV s).2 || (numT (lettersV (blankV s).1).1).2)
noncomputable def rkindV (s : List UInt8) : Int × List UInt8 × Bool := if 1 ≤ idxV kindL (lettersV s).1 then (idxV kindL (lettersV s).1, (lettersV s).2, false) else (0, (lettersV s).2, true)
theorem blankV_cons (c : UInt8) (t : List UInt8) : blankV (c :: t) = if c = 32 then (t, false) else (c :: t, true) := rfl
theorem eqB_byteL (c d : UInt8) (n : Nat) (h : (OfNat.ofNat n : Nat) = d.toNat) : eqB (c.toNat : Int) (OfNat.ofNat n) = decide (c = d) := eqB_byte c d n h
theorem blankV_len (s : List UInt8) : (blankV s).1.length ≤ s.length := by
 cases s with
 | nil => exact Nat.le_refl _
 | cons c t =>
  rw [blankV_cons]
  split <;> simp
theorem lettersV_len (s : List UInt8) : (lettersV s).1.length ≤ s.length ∧ (lettersV s).2.length ≤ s.length := by
 unfold lettersV
 cases h : cutAt 32 s with
 | none => exact ⟨Nat.le_refl _, Nat.zero_le _⟩
 | some p =>
  have h1 := congrArg List.length (cutAt_some h).1
  rw [List.length_append, List.length_cons] at h1
  simp only [List.length_cons]
  omega
theorem wrap_i64' (n : Int) : IntKind.i64.wrap n = if 9223372036854775808 ≤ n % 18446744073709551616 then n % 18446744073709551616 - 18446744073709551616 else n % 18446744073709551616 := by
 simp [IntKind.wrap, IntKind.bits, IntKind.signed]
theorem wrap_in (n : Int) : -9223372036854775808 ≤ wrapW .i64 n ∧ wrapW .i64 n ≤ 9223372036854775807 := by
 rw [wrapW_eq, wrap_i64']
 split <;> omega
theorem numT_in (t : List UInt8) : -9223372036854775808 ≤ (numT t).1 ∧ (numT t).1 ≤ 9223372036854775807 := by
 unfold numT
 generalize (if t.head? = some 45 then t.drop 1 else t) = d
 by_cases h : d = [] ∨ 19 < d.length
 ·rw [if_pos h]; simp
 ·rw [if_neg h]
  cases digsV 0 d with
  | none => simp
  | some u =>
   by_cases hh : t.head? = some 45
   ·simp only [if_pos hh]; exact wrap_in _
   ·simp only [if_neg hh]; exact wrap_in _
section
variable {os : List (Nat × AObj)} {A : AW} {Q : Value → AW → Prop} {l : List Thing} {b : Nat} {e : TypeId} {g ish : Bool}
theorem rblankG (s : List UInt8) (bad : Bool) (hp : Hp (tabsOf os) A (rdr b e g ish s bad :: l)) (H : ∀ A', Hp (tabsOf os) A' (rdr b e g ish (blankV s).1 (bad || (blankV s).2) :: l) → Q (.tuple ⟨[]⟩) A') :
  Goes (XX os) 1 66 [.pointer (some ⟨b, 0, none⟩)] A Q := by
 refine t66 (d := 0) (some ⟨b, 0, none⟩, ()) fun n hn => ?_
 simp only [f66, f66c0]
 refine ev_join (fun j A' => Hp (tabsOf os) A' (rdr b e g ish s bad :: l) ∧ j = ((blankV s).2, ())) ?_ fun go hgo => ?_
 rotate_left
 ·refine ev_load 0 hp rfl rfl rfl (Nat.le_of_ble_eq_true rfl) (x := BA s) rfl ?_
  cases s with
  | nil => exact ev_t rfl (hgo _ A ⟨hp, rfl⟩)
  | cons c t =>
   refine ev_f (by rw [BA_size, eqB_lit]; exact decide_eq_false (by simp)) ?_
   refine ev_load 0 hp rfl rfl rfl (Nat.le_of_ble_eq_true rfl) (x := BA (c :: t)) rfl ?_
   refine ev_guard (by rw [BA_size, inB_0]; exact decide_eq_true (by simp)) ?_
   refine hgo _ A ⟨hp, ?_⟩
   have e1 : byteAt (BA (c :: t)) 0 = (c.toNat : Int) := by rw [at_byteAt0]; rfl
   rw [e1, eqB_byteL c 32 32 rfl]
   rw [blankV_cons]
   by_cases hc : c = 32
   ·rw [if_pos hc, decide_eq_true hc]; rfl
   ·rw [if_neg hc, decide_eq_false hc]; rfl
 rintro _ A1 ⟨hp, rfl⟩
 refine ev_ite (fun h => ?_) fun h => ?_
 ·have h : (blankV s).2 = true := h
  refine ev_store 0 hp rfl rfl (Nat.le_of_ble_eq_true rfl) rfl fun A2 hp => ev_pure (H A2 ?_)
  have e1 : (blankV s).1 = s := by
   cases s with
   | nil => rfl
   | cons c t =>
    rw [blankV_cons] at h ⊢
    split at h
    ·cases h
    ·rename_i hc; rw [if_neg hc]
  rw [h, e1, Bool.or_true]
  exact hp
 ·have h : (blankV s).2 = false := h
  refine ev_load 0 hp rfl rfl rfl (Nat.le_of_ble_eq_true rfl) (x := BA s) rfl ?_
  cases s with
  | nil => cases h
  | cons c t =>
   refine ev_guard (by rw [BA_size, upB_1]; exact decide_eq_true (by simp)) ?_
   rw [show Int.toNat 1 = 1 from rfl, BA_from]
   refine ev_store 0 hp rfl rfl (Nat.le_of_ble_eq_true rfl) rfl fun A2 hp => ev_pure (H A2 ?_)
   rw [h, Bool.or_false]
   rw [blankV_cons] at h ⊢
   split at h
   ·rename_i hc; rw [if_pos hc]; exact hp
   ·cases h
theorem rlettersG (s : List UInt8) (bad : Bool) (hs : s.length < 2 ^ 38) (hp : Hp (tabsOf os) A (rdr b e g ish s bad :: l)) (H : ∀ A', Hp (tabsOf os) A' (rdr b e g ish (lettersV s).2 bad :: l) → Q (.string (BA (lettersV s).1)) A') :
  Goes (XX os) 1 67 [.pointer (some ⟨b, 0, none⟩)] A Q := by
 refine t67 (d := 0) (some ⟨b, 0, none⟩, ()) fun n hn => ?_
 simp only [f67, f67c0]
 refine ev_bind (ev_LL (fun μ st A' => ∃ i, μ = s.length - i ∧ i ≤ s.length ∧ st = (((i : Nat) : Int), ()) ∧ (32 : UInt8) ∉ s.take i ∧ Hp (tabsOf os) A' (rdr b e g ish s bad :: l)) (m := s.length) ⟨0, rfl, by omega, rfl, by simp, hp⟩ (by omega) ?_)
 rintro μ st A1 ⟨i, rfl, hi, rfl, hno, hp⟩
 have fin : ∀ A2, Hp (tabsOf os) A2 (rdr b e g ish s bad :: l) → (i = s.length ∨ s[i]? = some 32) → Ev (M.deref (some ⟨b, 0, none⟩) fun a13 => M.load (.cell .string) 1 (a13.add 0) fun (x14 : ByteArray) => M.guard (upB (i : Int) x14.size) (M.deref (some ⟨b, 0, none⟩) fun a17 =>
   M.load (.cell .string) 1 (a17.add 0) fun (x18 : ByteArray) => M.guard (upB (i : Int) x18.size) (M.deref (some ⟨b, 0, none⟩) fun a21 => M.store (a21.add 0) [(.string (x18.extract (Int.toNat (i : Int)) x18.size))] (M.pure (.string (x14.extract 0 (Int.toNat (i : Int)))))))) A2 Q := fun A2 hp he => by
  refine ev_load 0 hp rfl rfl rfl (Nat.le_of_ble_eq_true rfl) (x := BA s) rfl ?_
  refine ev_guard (by rw [upB_nat]; exact decide_eq_true hi) ?_
  refine ev_load 0 hp rfl rfl rfl (Nat.le_of_ble_eq_true rfl) (x := BA s) rfl ?_
  refine ev_guard (by rw [upB_nat]; exact decide_eq_true hi) ?_
  rw [Int.toNat_natCast, BA_from, BA_extract, List.drop_zero]
  have hl := letters_at hi hno he
  rw [hl] at H
  exact ev_store 0 hp rfl rfl (Nat.le_of_ble_eq_true rfl) rfl fun A3 hp => ev_pure (H A3 hp)
 refine ev_join (fun j A' => Hp (tabsOf os) A' (rdr b e g ish s bad :: l) ∧ ((j = (true, ()) ∧ ∃ c, s[i]? = some c ∧ c ≠ 32) ∨ (j = (false, ()) ∧ (i = s.length ∨ s[i]? = some 32)))) ?_ fun go hgo => ?_
 ·rintro _ A2 ⟨hp, ⟨rfl, c, hc, hne⟩ | ⟨rfl, he⟩⟩
  ·have hil := (List.getElem?_eq_some_iff.1 hc).1
   refine ev_t rfl (ev_pure ⟨s.length - (i + 1), by omega, i + 1, rfl, by omega, by rw [addW_1 (by omega)], ?_, hp⟩)
   rw [List.take_add_one, hc]
   simp only [Option.toList_some, List.mem_append, List.mem_singleton, not_or]
   exact ⟨hno, fun e => hne e.symm⟩
  ·refine ev_f rfl (ev_pure ?_)
   exact fin A2 hp he
 ·refine ev_load 0 hp rfl rfl rfl (Nat.le_of_ble_eq_true rfl) (x := BA s) rfl ?_
  rw [BA_size, ltB_nat]
  refine ev_ite (fun h => ?_) fun h => ?_
  ·have h := of_decide_eq_true h
   refine ev_load 0 hp rfl rfl rfl (Nat.le_of_ble_eq_true rfl) (x := BA s) rfl ?_
   refine ev_guard (by rw [BA_size, inB_nat]; exact decide_eq_true h) ?_
   have e1 : byteAt (BA s) (i : Int) = ((s[i]).toNat : Int) := by
    rw [at_byteAt]
    unfold at'
    rw [List.getElem?_eq_getElem h]; rfl
   rw [e1, eqB_byteL _ 32 32 rfl]
   by_cases hc : s[i] = 32
   ·exact hgo _ A1 ⟨hp, .inr ⟨by rw [decide_eq_true hc]; rfl, .inr (by rw [List.getElem?_eq_getElem h, hc])⟩⟩
   ·exact hgo _ A1 ⟨hp, .inl ⟨by rw [decide_eq_false hc]; rfl, s[i], List.getElem?_eq_getElem h, hc⟩⟩
  ·have h := of_decide_eq_false h
   exact hgo _ A1 ⟨hp, .inr ⟨rfl, .inl (by omega)⟩⟩
theorem rwordG (s : List UInt8) (bad : Bool) (hs : s.length < 2 ^ 36) (hp : Hp (tabsOf os) A (rdr b e g ish s bad :: l)) (H : ∀ A', Hp (tabsOf os) A' (rdr b e g ish (rwordV s).2.1 (bad || (rwordV s).2.2) :: l) → Q (.string (BA (rwordV s).1)) A') :
  Goes (XX os) 4 56 [.pointer (some ⟨b, 0, none⟩)] A Q := by
 refine t56 (d := 3) (some ⟨b, 0, none⟩, ()) fun n hn => ?_
 simp only [f56, f56c0]
 refine ((rblankG s bad hp fun A1 hp => ⟨(), rfl, ?_⟩).mono (show 1 ≤ 3 by decide)).use hn
 refine ev_load 0 hp rfl rfl rfl (Nat.le_of_ble_eq_true rfl) (x := BA (blankV s).1) rfl ?_
 have hl := blankV_len s
 unfold rwordV at H
 have hu := refUnquoteG (os := os) (blankV s).1 (by omega)
 rw [← unq_one] at hu
 cases hq : unqG (blankV s).1 with
 | none =>
  rw [hq] at hu H
  refine hu.use hn hp (x := (BA [], BA [], false, ())) rfl fun A2 hp => ?_
  refine ev_join (fun _ A' => Hp (tabsOf os) A' (rdr b e g ish (blankV s).1 true :: l)) ?_ fun go hgo => ?_
  ·rintro _ A3 hp
   refine ev_store 0 hp rfl rfl (Nat.le_of_ble_eq_true rfl) rfl fun A4 hp => ev_pure (H A4 ?_)
   rw [Bool.or_true]
   exact hp
  ·exact ev_t rfl (ev_store 0 hp rfl rfl (Nat.le_of_ble_eq_true rfl) rfl fun A3 hp => hgo () A3 hp)
 | some p =>
  rw [hq] at hu H
  refine hu.use hn hp (x := (BA p.1, BA p.2, true, ())) rfl fun A2 hp => ?_
  refine ev_join (fun _ A' => Hp (tabsOf os) A' (rdr b e g ish (blankV s).1 (bad || (blankV s).2) :: l)) ?_ fun go hgo => ?_
  ·rintro _ A3 hp
   exact ev_store 0 hp rfl rfl (Nat.le_of_ble_eq_true rfl) rfl fun A4 hp => ev_pure (H A4 hp)
  ·exact ev_f rfl (hgo () A2 hp)
theorem rkindG (s : List UInt8) (bad : Bool) (hs : s.length < 2 ^ 38) (hp : Hp (tabsOf os) A (rdr b e g ish s bad :: l)) (H : ∀ A', Hp (tabsOf os) A' (rdr b e g ish (rkindV s).2.1 (bad || (rkindV s).2.2) :: l) → Q (.int .i64 (rkindV s).1) A') :
  Goes (XX os) 2 55 [.pointer (some ⟨b, 0, none⟩)] A Q := by
 refine t55 (d := 1) (some ⟨b, 0, none⟩, ()) fun n hn => ?_
 simp only [f55, f55c0]
 refine (rlettersG s bad hs hp fun A1 hp => ⟨_, rfl, ?_⟩).use hn
 unfold rkindV at H
 generalize lettersV s = q at *
 obtain ⟨t, r⟩ := q
 simp only at *
 refine ev_bind (ev_LL (fun μ st A' => ∃ i : Nat, μ = 22 - i ∧ 1 ≤ i ∧ i ≤ 22 ∧ st = ((i : Int), ()) ∧ (∀ k : Nat, 1 ≤ k → k < i → nameV k ≠ t) ∧ Hp (tabsOf os) A' (rdr b e g ish r bad :: l)) (m := 21) ⟨1, rfl, by omega, by omega, rfl, fun k h1 h2 => by omega, hp⟩ (by omega) ?_)
 rintro μ st A2 ⟨i, rfl, h1, h22, rfl, hno, hp⟩
 rw [show (21 : Int) = ((21 : Nat) : Int) from rfl, leB_nat]
 refine ev_ite (fun h => ?_) fun h => ?_
 ·have h := of_decide_eq_true h
  refine (refNameG (i : Int)).use hn hp rfl fun A3 hp => ?_
  rw [BA_seq]
  have hne : nameV (i : Int) ≠ [] := by
   have h3 := List.all_eq_true.1 kinds_ok i (List.mem_range.2 (by omega))
   simp only [Bool.and_eq_true, beq_iff_eq] at h3
   have h4 : decide (kindL.getD i [] = []) = decide (i = 0) := h3.1.1.2
   unfold nameV
   rw [if_neg (by omega)]
   rw [decide_eq_false (show ¬ i = 0 by omega)] at h4
   exact of_decide_eq_false h4
  refine ev_ite (fun h2 => ?_) fun h2 => ?_
  ·have h2 := of_decide_eq_true h2
   obtain ⟨_, k2, _⟩ := kind_ok hne
   rw [h2] at k2
   rw [k2, if_pos (by omega)] at H
   refine ev_pure (ev_pure (H A3 ?_))
   rw [Bool.or_false]
   exact hp
  ·have h2 := of_decide_eq_false h2
   refine ev_pure ⟨22 - (i + 1), by omega, i + 1, rfl, by omega, by omega, by rw [addW_1 (by omega)], fun k k1 k2 => ?_, hp⟩
   by_cases hk : k = i
   ·subst hk; exact h2
   ·exact hno k k1 (by omega)
 ·have h := of_decide_eq_false h
  have hlt : ¬ 1 ≤ idxV kindL t := fun hc => by
   unfold idxV at hc
   split at hc
   ·rename_i hm
    have hj := List.idxOf_lt_length_of_mem hm
    rw [kindL_len] at hj
    have hj2 : 1 ≤ kindL.idxOf t := by omega
    refine hno (kindL.idxOf t) hj2 (by omega) ?_
    unfold nameV
    rw [if_neg (by omega), Int.toNat_natCast, List.getD_eq_getElem?_getD, List.getElem?_eq_getElem (by rw [kindL_len]; exact hj)]
    exact List.getElem_idxOf _
   ·omega
  rw [if_neg hlt] at H
  refine ev_pure ?_
  simp only [Round, M.sum]
  refine ev_store 0 hp rfl rfl (Nat.le_of_ble_eq_true rfl) rfl fun A3 hp => ev_pure (H A3 ?_)
  rw [Bool.or_true]
  exact hp
theorem digsV_app : ∀ (l m : List UInt8) (a v : Nat), digsV a l = some v → digsV a (l ++ m) = digsV v m
 | [], m, a, v, h => by
  obtain rfl := Option.some.inj h
  rfl
 | c :: r, m, a, v, h => by
  rw [List.cons_append]
  simp only [digsV] at h ⊢
  split at h
  ·rename_i h1
   rw [if_pos h1]
   exact digsV_app r m _ v h
  ·cases h
theorem digsV_none : ∀ (l : List UInt8) (a : Nat) (i : Nat) (c : UInt8), l[i]? = some c → ¬ (48 ≤ c.toNat ∧ c.toNat ≤ 57) → digsV a l = none
 | [], _, _, _, h, _ => by simp at h
 | d :: r, a, 0, c, h, hc => by
  obtain rfl := Option.some.inj h
  rw [digsV, if_neg hc]
 | d :: r, a, i + 1, c, h, hc => by
  rw [digsV]
  split
  ·exact digsV_none r _ i c (by simpa using h) hc
  ·rfl
theorem mul10 {u : Nat} (h : 10 * u < 18446744073709551616) : mulW .u64 10 (u : Int) = ((10 * u : Nat) : Int) := by
 rw [mulW_eq, show (10 : Int) * (u : Int) = ((10 * u : Nat) : Int) by omega]
 exact wrap_nat (k := .u64) (by show 10 * u ≤ 18446744073709551615; omega)
theorem rnumberG (s : List UInt8) (bad : Bool) (hs : s.length < 2 ^ 38) (hp : Hp (tabsOf os) A (rdr b e g ish s bad :: l)) (H : ∀ A', Hp (tabsOf os) A' (rdr b e g ish (rnumV s).2.1 (bad || (rnumV s).2.2) :: l) → Q (.int .i64 (rnumV s).1) A') :
  Goes (XX os) 2 57 [.pointer (some ⟨b, 0, none⟩)] A Q := by
 refine t57 (d := 1) (some ⟨b, 0, none⟩, ()) fun n hn => ?_
 unfold f57
 have hb := blankV_len s
 refine (rblankG s bad hp fun A1 hp => ⟨(), rfl, ?_⟩).use hn
 refine (rlettersG (blankV s).1 (bad || (blankV s).2) (by omega) hp fun A2 hp => ⟨_, rfl, ?_⟩).use hn
 have hll := (lettersV_len (blankV s).1).1
 unfold rnumV at H
 generalize (blankV s).2 = bb at *
 generalize lettersV (blankV s).1 = q at *
 obtain ⟨t, r⟩ := q
 simp only at *
 rw [← Bool.or_assoc] at H
 generalize (bad || bb) = bd at *
 obtain ⟨d, hd⟩ : ∃ d, d = if t.head? = some 45 then t.drop 1 else t := ⟨_, rfl⟩
 have hdl : d.length ≤ t.length := by
  rw [hd]; split
  ·rw [List.length_drop]; omega
  ·exact Nat.le_refl _
 have hneg : d.length < t.length ↔ t.head? = some 45 := by
  rw [hd]; split
  ·rename_i h
   cases t with
   | nil => cases h
   | cons c t => simpa using h
  ·rename_i h
   exact ⟨fun h1 => absurd h1 (Nat.lt_irrefl _), fun h1 => absurd h1 h⟩
 unfold numT at H
 rw [← hd] at H
 unfold f57c2
 refine ev_join (fun j A' => Hp (tabsOf os) A' (rdr b e g ish r bd :: l) ∧ j = (BA d, ())) ?_ fun go3 hgo3 => ?_
 rotate_left
 ·refine ev_join (fun j A' => Hp (tabsOf os) A' (rdr b e g ish r bd :: l) ∧ j = (decide (t.head? = some 45), ())) ?_ fun go43 hgo43 => ?_
  rotate_left
  ·rw [BA_size, ltB_lit']
   cases t with
   | nil => exact ev_f rfl (hgo43 _ A2 ⟨hp, rfl⟩)
   | cons c t =>
    refine ev_t (by simp) (ev_guard (by rw [inB_0]; exact decide_eq_true (by simp)) (hgo43 _ A2 ⟨hp, ?_⟩))
    have e1 : byteAt (BA (c :: t)) 0 = (c.toNat : Int) := by rw [at_byteAt0]; rfl
    rw [e1, eqB_byteL c 45 45 rfl]
    simp
  rintro _ A3 ⟨hp, rfl⟩
  refine ev_ite (fun h => ?_) fun h => ?_
  ·have h := of_decide_eq_true h
   rw [if_pos h] at hd
   refine ev_guard (by rw [BA_size, upB_1]; exact decide_eq_true (by cases t with | nil => cases h | cons c t => simp)) ?_
   rw [show Int.toNat 1 = 1 from rfl, BA_from, ← hd]
   exact hgo3 _ A3 ⟨hp, rfl⟩
  ·have h := of_decide_eq_false h
   rw [if_neg h] at hd
   rw [← hd]
   exact hgo3 _ A3 ⟨hp, rfl⟩
 rintro _ A3 ⟨hp, rfl⟩
 refine ev_join (fun j A' => Hp (tabsOf os) A' (rdr b e g ish r bd :: l) ∧ j = (decide (d = [] ∨ 19 < d.length), ())) ?_ fun go5 hgo5 => ?_
 rotate_left
 ·simp only [BA_size]
  rw [eqB_lit, ltB_lit']
  refine ev_ite (fun h => ?_) fun h => ?_
  ·have h := of_decide_eq_true h
   exact hgo5 _ A3 ⟨hp, by rw [decide_eq_true (.inl (List.eq_nil_of_length_eq_zero h))]⟩
  ·have h := of_decide_eq_false h
   refine hgo5 _ A3 ⟨hp, ?_⟩
   congr 1
   exact decide_eq_decide.2 ⟨fun h1 => .inr h1, fun h1 => h1.resolve_left fun e => h (by rw [e]; rfl)⟩
 rintro _ A4 ⟨hp, rfl⟩
 refine ev_ite (fun h => ?_) fun h => ?_
 ·have h := of_decide_eq_true h
  rw [if_pos h] at H
  refine ev_store 0 hp rfl rfl (Nat.le_of_ble_eq_true rfl) rfl fun A5 hp => ev_pure (H A5 ?_)
  rw [Bool.or_true]
  exact hp
 have h := of_decide_eq_false h
 rw [if_neg h] at H
 have h19 : d.length ≤ 19 := by
  by_cases h9 : 19 < d.length
  ·exact absurd (.inr h9) h
  ·omega
 unfold f57c1
 refine ev_bind (ev_LL (fun μ st A' => ∃ (i u : Nat), μ = d.length - i ∧ i ≤ d.length ∧ st = ((u : Int), (i : Int), ()) ∧ u < 10 ^ i ∧ digsV 0 d = digsV u (d.drop i) ∧ Hp (tabsOf os) A' (rdr b e g ish r bd :: l)) (m := d.length) ⟨0, 0, rfl, by omega, rfl, by decide, by simp, hp⟩ (by omega) ?_)
 rintro μ st A5 ⟨i, u, rfl, hi, rfl, hu, hdg, hp⟩
 simp only [BA_size, ltB_nat]
 unfold f57c0
 refine ev_ite (fun h1 => ?_) fun h1 => ?_
 ·have h1 := of_decide_eq_true h1
  have e1 : byteAt (BA d) (i : Int) = ((d[i]).toNat : Int) := by
   rw [at_byteAt]
   unfold at'
   rw [List.getElem?_eq_getElem h1]; rfl
  have hdc : d.drop i = d[i] :: d.drop (i + 1) := List.drop_eq_getElem_cons h1
  refine ev_join (fun j A' => Hp (tabsOf os) A' (rdr b e g ish r bd :: l) ∧ j = (!decide (48 ≤ (d[i]).toNat ∧ (d[i]).toNat ≤ 57), ())) ?_ fun go11 hgo11 => ?_
  rotate_left
  ·refine ev_guard (by rw [BA_size, inB_nat]; exact decide_eq_true h1) ?_
   rw [e1, ltB_lit]
   refine ev_ite (fun h2 => ?_) fun h2 => ?_
   ·have h2 := of_decide_eq_true h2
    exact hgo11 _ A5 ⟨hp, by rw [decide_eq_false (by omega)]; rfl⟩
   ·have h2 := of_decide_eq_false h2
    refine ev_guard (by rw [BA_size, inB_nat]; exact decide_eq_true h1) ?_
    rw [ltB_lit']
    refine hgo11 _ A5 ⟨hp, ?_⟩
    by_cases h3 : 57 < (d[i]).toNat
    ·rw [decide_eq_true h3, decide_eq_false (by omega)]; rfl
    ·rw [decide_eq_false h3, decide_eq_true (by omega)]; rfl
  rintro _ A6 ⟨hp, rfl⟩
  refine ev_ite (fun h2 => ?_) fun h2 => ?_
  ·have h2 : (!decide (48 ≤ (d[i]).toNat ∧ (d[i]).toNat ≤ 57)) = true := h2
   rw [Bool.not_eq_true'] at h2
   have h2 := of_decide_eq_false h2
   rw [digsV_none d 0 i d[i] (List.getElem?_eq_getElem h1) h2] at H
   refine ev_store 0 hp rfl rfl (Nat.le_of_ble_eq_true rfl) rfl fun A7 hp => ev_pure (ev_pure (H A7 ?_))
   rw [Bool.or_true]
   exact hp
  ·have h2 : (!decide (48 ≤ (d[i]).toNat ∧ (d[i]).toNat ≤ 57)) = false := h2
   rw [Bool.not_eq_false'] at h2
   have h2 := of_decide_eq_true h2
   refine ev_guard (by rw [BA_size, inB_nat]; exact decide_eq_true h1) ?_
   have hp10 : 10 ^ (i + 1) ≤ 10 ^ 19 := Nat.pow_le_pow_right (by decide) (by omega)
   have hu1 : 10 * u + ((d[i]).toNat - 48) < 10 ^ (i + 1) := by rw [Nat.pow_succ]; omega
   have hlt := (d[i]).toNat_lt
   rw [e1, mul10 (by omega), show (48 : Int) = ((48 : Nat) : Int) from rfl, subW_u8 h2.1 (by omega), wrapW_nat (k := .u64) (by show _ ≤ 18446744073709551615; omega), addW_eq, show ((10 * u : Nat) : Int) + (((d[i]).toNat - 48 : Nat) : Int) = ((10 * u + ((d[i]).toNat - 48) : Nat) : Int) by omega, wrap_nat (k := .u64) (by show _ ≤ 18446744073709551615; omega)]
   refine ev_pure ⟨d.length - (i + 1), by omega, i + 1, 10 * u + ((d[i]).toNat - 48), rfl, by omega, by rw [addW_1 (by omega)], hu1, ?_, hp⟩
   rw [hdg, hdc, digsV, if_pos h2]
 ·have h1 := of_decide_eq_false h1
  rw [List.drop_of_length_le (by omega)] at hdg
  have hdg : digsV 0 d = some u := hdg
  rw [hdg] at H
  refine ev_pure ?_
  simp only [Round, M.sum]
  obtain ⟨z, hz⟩ : ∃ z, z = if t.head? = some 45 then wrapW .i64 (subW .u64 0 (u : Int)) else wrapW .i64 (u : Int) := ⟨_, rfl⟩
  have hzi : -9223372036854775808 ≤ z ∧ z ≤ 9223372036854775807 := by
   rw [hz]; split <;> exact wrap_in _
  simp only [← hz] at H
  refine ev_join (fun j A' => Hp (tabsOf os) A' (rdr b e g ish r bd :: l) ∧ j = (z, ())) ?_ fun go26 hgo26 => ?_
  rotate_left
  ·refine ev_ite (fun h2 => ?_) fun h2 => ?_
   ·have h2 := hneg.1 (of_decide_eq_true h2)
    rw [if_pos h2] at hz
    exact hgo26 _ A5 ⟨hp, by rw [hz]⟩
   ·have h2 : ¬ t.head? = some 45 := fun h3 => of_decide_eq_false h2 (hneg.2 h3)
    rw [if_neg h2] at hz
    exact hgo26 _ A5 ⟨hp, by rw [hz]⟩
  rintro _ A6 ⟨hp, rfl⟩
  refine ev_join (fun _ A' => Hp (tabsOf os) A' (rdr b e g ish r (bd || !decide (Lib.itoa z = t)) :: l)) ?_ fun go28 hgo28 => ?_
  ·rintro _ A7 hp
   exact ev_pure (H A7 hp)
  refine (refNumberG hzi).use hn hp rfl fun A7 hp => ?_
  rw [BA_seq]
  refine ev_ite (fun h2 => ?_) fun h2 => ?_
  ·rw [h2] at hgo28
   refine ev_store 0 hp rfl rfl (Nat.le_of_ble_eq_true rfl) rfl fun A8 hp => hgo28 () A8 ?_
   rw [Bool.or_true]
   exact hp
  ·rw [h2, Bool.or_false] at hgo28
   exact hgo28 () A7 hp
end
end Go.Proofs.YtlcigkdflbfdgaaGreatDoor.sg
namespace Go.Proofs.YtlcigkdflbfdgaaGreatDoor.sg
set_option linter.unusedVariables false
open Go Go.Eng Go.Sh
theorem peek_sub {A : AW} {a : Addr} {n j : Nat} {vs : List Value} (h : A.peek a n = some vs) (hj : j < n) : A.peek (a.add j) 1 = some ((vs.drop j).take 1) := by
 have key : ∀ (r : Row) (us : List Value), r.read a.off n = some us → r.read (a.off + j) 1 = some ((us.drop j).take 1) := fun r us h => by
  rw [Row.read_eq] at h ⊢
  split at h
  ·rw [if_pos (by omega)]
   obtain rfl := Option.some.inj h
   rw [List.drop_take, List.take_take, List.drop_drop, Nat.min_eq_left (by omega)]
  ·cases h
 unfold AW.peek at h
 cases hs : a.spot with
 | some s =>
  rw [hs] at h
  cases hg : A.get a.block with
  | none => rw [hg] at h; cases h
  | some o => rw [hg] at h; cases o <;> cases h
 | none =>
  rw [add_spot hs]
  unfold AW.peek
  rw [hs] at h
  simp only [Option.isNone_none, cond_true] at h ⊢
  cases hg : A.get a.block with
  | none => rw [hg] at h; cases h
  | some o =>
   rw [hg] at h
   cases o with
   | cells r e g fz ish => exact key r vs h
   | pin r p =>
    simp only at h ⊢
    cases hr : r.read a.off n with
    | none => rw [hr] at h; cases h
    | some us =>
     rw [hr] at h
     simp only at h
     cases hu : us.all notHole with
     | false => rw [hu] at h; cases h
     | true =>
      rw [hu] at h
      obtain rfl := Option.some.inj h
      rw [key r us hr]
      have : ((us.drop j).take 1).all notHole = true := by
       rw [List.all_eq_true] at hu ⊢
       exact fun v hv => hu v (List.mem_of_mem_drop (List.mem_of_mem_take hv))
      simp only [this, cond_true]
   | _ => cases h
/-- A record's field is read. -/
theorem ev_fld {T : Tabs} {A : AW} {D l : List Thing} {ρ : Type} {Q : ρ → AW → Prop} {s : Sh} {b : Addr} {n esz i j : Nat} {L : List Value} {k : s.T → M ρ} {x : s.T} (hp : Hp T A l) (hs : ∀ t ∈ D, t ∈ l) (h : RowsAt T D (Option.some b) n esz L) (hi : i < n) (hj : j < esz)
  (hx : s.ofCells ((((L.drop (i * esz)).take esz).drop j).take 1) = Option.some x) (H : Ev (k x) A Q) : Ev (M.load s 1 ((b.add (i * esz)).add j) k) A Q := by
 obtain ⟨b', hb, hk⟩ := (h.2 A (hp.has hs)).1 i hi
 obtain rfl := Option.some.inj hb
 obtain ⟨y, A', h1, h2⟩ := H
 exact ⟨y, A', (load_run (x := x) (by rw [peek_sub hk hj]; exact hx)).trans h1, h2⟩
theorem lt0 (n : Nat) : ltB 0 (n : Int) = !eqB (n : Int) 0 := by
 rw [ltB_lit', eqB_lit]
 by_cases h : n = 0
 ·subst h; rfl
 ·rw [decide_eq_true (show (OfNat.ofNat 0 : Nat) < n from Nat.pos_of_ne_zero h), decide_eq_false h]; rfl
theorem rlB_err {x : Rw} (h : eqB x.err 0 = false) (hn : ¬ nameV x.kind = []) : (!rlB x) = (ltB 0 ((x.data.length : Nat) : Int) || (!zeroS x || (ltB 0 ((x.ents.length : Nat) : Int) || x.is))) := by
 unfold rlB bareD bareS bareE
 rw [h, decide_eq_false hn, lt0, lt0]
 generalize eqB ((x.data.length : Nat) : Int) 0 = a
 generalize zeroS x = b
 generalize eqB ((x.ents.length : Nat) : Int) 0 = c
 generalize eqB x.kind 7 = k7
 generalize eqB x.kind 10 = k10
 generalize eqB x.kind 11 = k11
 generalize eqB x.kind 15 = k15
 generalize eqB x.kind 16 = k16
 generalize x.is = i
 cases a <;> cases b <;> cases c <;> cases i <;> rfl
theorem rlB_ok {x : Rw} (h : eqB x.err 0 = true) (hn : ¬ nameV x.kind = []) : (!rlB x) = ((ltB 0 ((x.data.length : Nat) : Int) && !eqB x.kind 7) || ((!zeroS x && !eqB x.kind 10) || ((ltB 0 ((x.ents.length : Nat) : Int) && !eqB x.kind 11) || (x.is && (!eqB x.kind 15 && !eqB x.kind 16))))) := by
 unfold rlB bareD bareS bareE
 rw [h, decide_eq_false hn, lt0, lt0]
 generalize eqB ((x.data.length : Nat) : Int) 0 = a
 generalize zeroS x = b
 generalize eqB ((x.ents.length : Nat) : Int) 0 = c
 generalize eqB x.kind 7 = k7
 generalize eqB x.kind 10 = k10
 generalize eqB x.kind 11 = k11
 generalize eqB x.kind 15 = k15
 generalize eqB x.kind 16 = k16
 generalize x.is = i
 revert a b c k7 k10 k11 k15 k16 i
 decide
section
variable {os : List (Nat × AObj)} {A : AW} {Q : Value → AW → Prop} {l : List Thing} {X : XT} {L : LoopI}
section
variable {b0 t0 : Nat} {x : Rw} {d e : SL} {go : ((Bool) × Unit) → M (Value)}
theorem rr_is (hp : Hp (tabsOf os) A (.cells b0 (rwC x d e) t0 false (0, 0) false :: l)) (h : Ev (go ((x.is && (!eqB x.kind 15 && !eqB x.kind 16)), ())) A Q) :
  Ev (M.load (.cell .bool) 1 ((Addr.mk b0 0 none).add 2) fun (x97 : Bool) => M.ite x97 (M.load (.cell (.int .i64)) 1 ((Addr.mk b0 0 none).add 0) fun (x98 : Int) => M.ite (!(eqB x98 15)) (M.load (.cell (.int .i64)) 1 ((Addr.mk b0 0 none).add 0) fun (x100 : Int) => go ((!(eqB x100 16)), ())) (go (false, ()))) (go (false, ()))) A Q := by
 refine ev_load 0 hp rfl rfl rfl (Nat.le_of_ble_eq_true rfl) (x := x.is) rfl ?_
 refine ev_ite (fun h0 => ?_) fun h0 => ?_
 ·rw [h0] at h
  refine ev_load 0 hp rfl rfl rfl (Nat.le_of_ble_eq_true rfl) (x := x.kind) rfl ?_
  refine ev_ite (fun h1 => ?_) fun h1 => ?_
  ·rw [h1] at h
   exact ev_load 0 hp rfl rfl rfl (Nat.le_of_ble_eq_true rfl) (x := x.kind) rfl h
  ·rw [h1] at h; exact h
 ·rw [h0] at h; exact h
theorem rr_e (v : Bool) (hp : Hp (tabsOf os) A (.cells b0 (rwC x d e) t0 false (0, 0) false :: l)) (h : Ev (go (((v && !eqB x.kind 11) || (x.is && (!eqB x.kind 15 && !eqB x.kind 16))), ())) A Q) : Ev (f29c10 X L b0 go v) A Q := by
 unfold f29c10
 refine ev_ite (fun h0 => ?_) fun h0 => ?_
 ·rw [h0] at h
  refine ev_load 0 hp rfl rfl rfl (Nat.le_of_ble_eq_true rfl) (x := x.kind) rfl ?_
  refine ev_ite (fun h1 => ?_) fun h1 => ?_
  ·rw [h1] at h; exact h
  ·rw [h1] at h; exact rr_is hp h
 ·rw [h0] at h; exact rr_is hp h
theorem rr_s (v : Bool) (hp : Hp (tabsOf os) A (.cells b0 (rwC x d e) t0 false (0, 0) false :: l)) (h : Ev (go (((v && !eqB x.kind 10) || ((ltB 0 ((e.2.1 : Nat) : Int) && !eqB x.kind 11) || (x.is && (!eqB x.kind 15 && !eqB x.kind 16)))), ())) A Q) :
  Ev (M.ite v (M.load (.cell (.int .i64)) 1 ((Addr.mk b0 0 none).add 0) fun (k : Int) => M.ite (!(eqB k 10)) (go (true, ())) (M.load (.cell .slice) 1 ((Addr.mk b0 0 none).add 8) fun (y : SL) => f29c10 X L b0 go (ltB 0 ((y.2.1 : Nat) : Int))))
   (M.load (.cell .slice) 1 ((Addr.mk b0 0 none).add 8) fun (y : SL) => f29c10 X L b0 go (ltB 0 ((y.2.1 : Nat) : Int)))) A Q := by
 refine ev_ite (fun h0 => ?_) fun h0 => ?_
 ·rw [h0] at h
  refine ev_load 0 hp rfl rfl rfl (Nat.le_of_ble_eq_true rfl) (x := x.kind) rfl ?_
  refine ev_ite (fun h1 => ?_) fun h1 => ?_
  ·rw [h1] at h; exact h
  ·rw [h1] at h
   exact ev_load 0 hp rfl rfl rfl (Nat.le_of_ble_eq_true rfl) (x := e) rfl (rr_e _ hp h)
 ·rw [h0] at h
  exact ev_load 0 hp rfl rfl rfl (Nat.le_of_ble_eq_true rfl) (x := e) rfl (rr_e _ hp h)
theorem rr_d (v : Bool) (hp : Hp (tabsOf os) A (.cells b0 (rwC x d e) t0 false (0, 0) false :: l)) (h : Ev (go (((ltB 0 ((d.2.1 : Nat) : Int) && !eqB x.kind 7) || ((v && !eqB x.kind 10) || ((ltB 0 ((e.2.1 : Nat) : Int) && !eqB x.kind 11) || (x.is && (!eqB x.kind 15 && !eqB x.kind 16))))), ())) A Q) :
  Ev (f29c15 X L b0 v go) A Q := by
 unfold f29c15
 refine ev_load 0 hp rfl rfl rfl (Nat.le_of_ble_eq_true rfl) (x := d) rfl ?_
 refine ev_ite (fun h0 => ?_) fun h0 => ?_
 ·rw [h0] at h
  unfold f29c12
  refine ev_load 0 hp rfl rfl rfl (Nat.le_of_ble_eq_true rfl) (x := x.kind) rfl ?_
  refine ev_ite (fun h1 => ?_) fun h1 => ?_
  ·rw [h1] at h; exact h
  ·rw [h1] at h; exact rr_s (X := X) (L := L) v hp h
 ·rw [h0] at h; exact rr_s (X := X) (L := L) v hp h
end
theorem refRowLineG (x : Rw) (d e : SL) {D : List Thing} (hsee : SeesB (tabsOf os) D d.1 d.2.1 x.data) (hro : RowsAt (tabsOf os) D e.1 e.2.1 2 (entC x.ents)) (he : e.2.1 = x.ents.length) (hD : ∀ t ∈ D, t ∈ l) (hx : Small x) (hp : Hp (tabsOf os) A l)
  (H : ∀ A', Hp (tabsOf os) A' l → Q (.tuple ⟨[.string (BA ((rowO x).getD [])), .bool (rowO x).isSome]⟩) A') : Goes (XX os) 3 29 [.agg ⟨rwC x d e⟩] A Q := by
 refine t29 (d := 2) ((x.kind, x.err, x.is, d, x.s1, x.s2, x.s3, x.s4, e, ()), ()) fun n hn => ?_
 unfold f29 f29c17
 refine ev_new hp fun b0 A1 hp => ?_
 obtain ⟨t0, hp⟩ : ∃ t0, Hp (tabsOf os) A1 (.cells b0 (rwC x d e) t0 false (0, 0) false :: l) := ⟨_, hp⟩
 refine ev_load 0 hp rfl rfl rfl (Nat.le_of_ble_eq_true rfl) (x := x.kind) rfl ?_
 refine ((refNameG x.kind).mono (show 1 ≤ 2 by decide)).use hn hp rfl fun A2 hp => ?_
 have n1 := nameV_len x.kind
 rw [show st0 = BA [] from rfl, BA_seq]
 have none : ∀ A', rlB x = false → Hp (tabsOf os) A' (.cells b0 (rwC x d e) t0 false (0, 0) false :: l) → Ev (M.pure (.tuple ⟨[.string (BA []), .bool false]⟩) : M Value) A' Q := fun A' h hp => by
  have e1 : rowO x = Option.none := by unfold rowO; rw [h]; rfl
  rw [e1] at H
  exact ev_pure (H A' hp.tail)
 refine ev_ite (fun h0 => ?_) fun h0 => ?_
 ·have h0 := of_decide_eq_true h0
  exact none A2 (by unfold rlB; rw [decide_eq_true h0]; rfl) hp
 have h0 := of_decide_eq_false h0
 refine ev_load 0 hp rfl rfl rfl (Nat.le_of_ble_eq_true rfl) (x := (x.s1, x.s2, x.s3, x.s4, ())) rfl ?_
 unfold f29c16
 rw [stat_eql]
 refine ev_load 0 hp rfl rfl rfl (Nat.le_of_ble_eq_true rfl) (x := x.err) rfl ?_
 have hz : (x.s1 == 0 && (x.s2 == 0 && (x.s3 == 0 && x.s4 == 0))) = zeroS x := rfl
 rw [hz]
 refine ev_ite (fun h1 => ?_) fun h1 => ?_
 ·have h1 : eqB x.err 0 = false := by simpa using h1
  have hB := rlB_err h1 h0
  rw [← hsee.1, ← he] at hB
  unfold f29c0
  refine ev_join (fun j A' => Hp (tabsOf os) A' (.cells b0 (rwC x d e) t0 false (0, 0) false :: l) ∧ j = (!rlB x, ())) ?_ fun go hgo => ?_
  ·rintro _ A3 ⟨hp, rfl⟩
   refine ev_ite (fun h2 => ?_) fun h2 => ?_
   ·have h2 : (!rlB x) = true := h2
    rw [Bool.not_eq_true'] at h2
    exact none A3 h2 hp
   ·have h2 : (!rlB x) = false := h2
    rw [Bool.not_eq_false'] at h2
    have e2 : rowO x = some (nameV x.kind ++ ([32, 101, 114, 114, 111, 114, 32] ++ Lib.itoa x.err)) := by unfold rowO rlV; rw [if_pos h2, h1]; rfl
    rw [e2] at H
    rw [show st17 = BA [32, 101, 114, 114, 111, 114, 32] from rfl]
    have i1 := itoa_len hx.err
    refine ev_guard (Nat.ble_eq_true_of_le (by simp only [BA_size, List.length_cons, List.length_nil]; omega)) ?_
    refine ev_load 0 hp rfl rfl rfl (Nat.le_of_ble_eq_true rfl) (x := x.err) rfl ?_
    refine ((refNumberG hx.err).mono (show 1 ≤ 2 by decide)).use hn hp rfl fun A4 hp => ?_
    rw [BA_append]
    refine ev_guard (Nat.ble_eq_true_of_le (by simp only [BA_size, List.length_append, List.length_cons, List.length_nil]; omega)) ?_
    rw [BA_append, List.append_assoc]
    exact ev_pure (H A4 hp.tail)
  rw [hB] at hgo
  refine ev_load 0 hp rfl rfl rfl (Nat.le_of_ble_eq_true rfl) (x := d) rfl ?_
  refine ev_ite (fun h2 => hgo _ A2 ⟨hp, by rw [h2]; rfl⟩) fun h2 => ?_
  rw [h2] at hgo
  refine ev_ite (fun h3 => hgo _ A2 ⟨hp, by rw [h3]; rfl⟩) fun h3 => ?_
  rw [h3] at hgo
  refine ev_load 0 hp rfl rfl rfl (Nat.le_of_ble_eq_true rfl) (x := e) rfl ?_
  refine ev_ite (fun h4 => hgo _ A2 ⟨hp, by rw [h4]; rfl⟩) fun h4 => ?_
  rw [h4] at hgo
  exact ev_load 0 hp rfl rfl rfl (Nat.le_of_ble_eq_true rfl) (x := x.is) rfl (hgo _ A2 ⟨hp, rfl⟩)
 have h1 : eqB x.err 0 = true := by simpa using h1
 have hB := rlB_ok h1 h0
 rw [← hsee.1, ← he] at hB
 refine ev_join (fun j A' => Hp (tabsOf os) A' (.cells b0 (rwC x d e) t0 false (0, 0) false :: l) ∧ j = (!rlB x, ())) ?_ fun go hgo => ?_
 rotate_left
 ·rw [hB] at hgo
  exact rr_d (X := XX os n) (L := LL) _ hp (hgo _ A2 ⟨hp, rfl⟩)
 rintro _ A3 ⟨hp, rfl⟩
 refine ev_ite (fun h2 => ?_) fun h2 => ?_
 ·have h2 : (!rlB x) = true := h2
  rw [Bool.not_eq_true'] at h2
  exact none A3 h2 hp
 have h2 : (!rlB x) = false := h2
 rw [Bool.not_eq_false'] at h2
 have e2 : rowO x = some ((nameV x.kind ++ [32, 111, 107]) ++ tailV x) := by unfold rowO rlV; rw [if_pos h2, if_pos h1]
 rw [e2] at H
 clear none e2 hB
 rw [show st18 = BA [32, 111, 107] from rfl]
 refine ev_guard (Nat.ble_eq_true_of_le (by simp only [BA_size, List.length_cons, List.length_nil]; omega)) ?_
 refine ev_load 0 hp rfl rfl rfl (Nat.le_of_ble_eq_true rfl) (x := x.kind) rfl ?_
 rw [BA_append]
 obtain ⟨v, hv⟩ : ∃ v, v = nameV x.kind ++ [32, 111, 107] := ⟨_, rfl⟩
 have hvl : v.length ≤ 13 := by rw [hv, List.length_append]; simp only [List.length_cons, List.length_nil]; omega
 rw [← hv] at H ⊢
 clear hv
 unfold f29c9
 refine ev_join (fun j A' => Hp (tabsOf os) A' (.cells b0 (rwC x d e) t0 false (0, 0) false :: l) ∧ j = (BA (v ++ tailV x), ())) ?_ fun go2 hgo2 => ?_
 ·rintro _ A4 ⟨hp, rfl⟩
  exact ev_pure (H A4 hp.tail)
 clear H
 unfold tailV at hgo2
 rw [show st14 = BA [32] from rfl]
 refine ev_ite (fun h3 => ?_) fun h3 => ?_
 ·rw [if_pos h3] at hgo2
  have h9 := hx.data
  have w1 := word_le x.data
  refine ev_guard (Nat.ble_eq_true_of_le (by simp only [BA_size, List.length_cons, List.length_nil]; omega)) ?_
  refine ev_load 0 hp rfl rfl rfl (Nat.le_of_ble_eq_true rfl) (x := d) rfl ?_
  refine ev_see hp (fun t ht => .tail _ (hD t ht)) hsee ?_
  refine (refQuoteG x.data (by omega)).use hn hp rfl fun A4 hp => ?_
  rw [BA_append]
  refine ev_guard (Nat.ble_eq_true_of_le (by simp only [BA_size, List.length_append, List.length_cons, List.length_nil]; omega)) ?_
  rw [BA_append, List.append_assoc]
  exact hgo2 _ A4 ⟨hp, rfl⟩
 rw [if_neg (by rw [h3]; decide)] at hgo2
 unfold f29c8
 refine ev_ite (fun h3 => ?_) fun h3 => ?_
 ·rw [if_pos h3] at hgo2
  have q1 := hx.stat x.s1 (by simp [statL])
  have q2 := hx.stat x.s2 (by simp [statL])
  have q3 := hx.stat x.s3 (by simp [statL])
  have q4 := hx.stat x.s4 (by simp [statL])
  have a1 := itoa_len q1
  have a2 := itoa_len q2
  have a3 := itoa_len q3
  have a4 := itoa_len q4
  unfold f29c4
  rw [show st14 = BA [32] from rfl]
  refine ev_guard (Nat.ble_eq_true_of_le (by simp only [BA_size, List.length_cons, List.length_nil]; omega)) ?_
  refine ev_load 0 hp rfl rfl rfl (Nat.le_of_ble_eq_true rfl) (x := x.s1) rfl ?_
  refine ev_load 0 hp rfl rfl rfl (Nat.le_of_ble_eq_true rfl) (x := x.s2) rfl ?_
  refine ev_load 0 hp rfl rfl rfl (Nat.le_of_ble_eq_true rfl) (x := x.s3) rfl ?_
  refine ev_load 0 hp rfl rfl rfl (Nat.le_of_ble_eq_true rfl) (x := x.s4) rfl ?_
  rw [BA_append]
  refine ((refNumberG q1).mono (show 1 ≤ 2 by decide)).use hn hp rfl fun A4 hp => ?_
  unfold f29c3
  rw [show st14 = BA [32] from rfl]
  refine ev_load 0 hp rfl rfl rfl (Nat.le_of_ble_eq_true rfl) (x := x.s4) rfl (ev_cond_t (by simp [veqv, veq1]) ?_)
  refine ev_load 0 hp rfl rfl rfl (Nat.le_of_ble_eq_true rfl) (x := x.s3) rfl (ev_cond_t (by simp [veqv, veq1]) ?_)
  refine ev_load 0 hp rfl rfl rfl (Nat.le_of_ble_eq_true rfl) (x := x.s2) rfl (ev_cond_t (by simp [veqv, veq1]) ?_)
  refine ev_guard (Nat.ble_eq_true_of_le (by simp only [BA_size, List.length_append, List.length_cons, List.length_nil]; omega)) ?_
  rw [BA_append]
  refine ev_guard (Nat.ble_eq_true_of_le (by simp only [BA_size, List.length_append, List.length_cons, List.length_nil]; omega)) ?_
  rw [BA_append]
  refine ((refNumberG q2).mono (show 1 ≤ 2 by decide)).use hn hp rfl fun A5 hp => ?_
  unfold f29c2
  rw [show st14 = BA [32] from rfl]
  refine ev_load 0 hp rfl rfl rfl (Nat.le_of_ble_eq_true rfl) (x := x.s4) rfl (ev_cond_t (by simp [veqv, veq1]) ?_)
  refine ev_load 0 hp rfl rfl rfl (Nat.le_of_ble_eq_true rfl) (x := x.s3) rfl (ev_cond_t (by simp [veqv, veq1]) ?_)
  refine ev_guard (Nat.ble_eq_true_of_le (by simp only [BA_size, List.length_append, List.length_cons, List.length_nil]; omega)) ?_
  rw [BA_append]
  refine ev_guard (Nat.ble_eq_true_of_le (by simp only [BA_size, List.length_append, List.length_cons, List.length_nil]; omega)) ?_
  rw [BA_append]
  refine ((refNumberG q3).mono (show 1 ≤ 2 by decide)).use hn hp rfl fun A6 hp => ?_
  unfold f29c1
  rw [show st14 = BA [32] from rfl]
  refine ev_load 0 hp rfl rfl rfl (Nat.le_of_ble_eq_true rfl) (x := x.s4) rfl (ev_cond_t (by simp [veqv, veq1]) ?_)
  refine ev_guard (Nat.ble_eq_true_of_le (by simp only [BA_size, List.length_append, List.length_cons, List.length_nil]; omega)) ?_
  rw [BA_append]
  refine ev_guard (Nat.ble_eq_true_of_le (by simp only [BA_size, List.length_append, List.length_cons, List.length_nil]; omega)) ?_
  rw [BA_append]
  refine ((refNumberG q4).mono (show 1 ≤ 2 by decide)).use hn hp rfl fun A7 hp => ?_
  refine ev_guard (Nat.ble_eq_true_of_le (by simp only [BA_size, List.length_append, List.length_cons, List.length_nil]; omega)) ?_
  rw [BA_append]
  refine hgo2 _ A7 ⟨hp, ?_⟩
  simp [statT, statL]
 rw [if_neg (by rw [h3]; decide)] at hgo2
 refine ev_ite (fun h3 => ?_) fun h3 => ?_
 ·rw [if_pos h3] at hgo2
  have hc := hx.count
  have hall := hx.all
  unfold f29c7
  refine ev_bind (ev_LL (fun μ st A' => ∃ i, μ = x.ents.length - i ∧ i ≤ x.ents.length ∧ st = (BA (v ++ entsT (x.ents.take i)), ((i : Nat) : Int), ()) ∧ Hp (tabsOf os) A' (.cells b0 (rwC x d e) t0 false (0, 0) false :: l)) (m := x.ents.length) ⟨0, rfl, by omega, by simp [entsT], hp⟩ (by omega) ?_)
  rintro μ st A4 ⟨i, rfl, hi, rfl, hp⟩
  refine ev_load 0 hp rfl rfl rfl (Nat.le_of_ble_eq_true rfl) (x := e) rfl ?_
  simp only [he, ltB_nat]
  refine ev_ite (fun h => ?_) fun h => ?_
  ·have h5 : i < x.ents.length := of_decide_eq_true h
   have hin := hx.ino (x.ents[i]'h5) (List.getElem_mem _)
   have i1 := itoa_len hin
   have hnm := hx.names (x.ents[i]'h5) (List.getElem_mem _)
   have w1 := word_le (x.ents[i]'h5).2
   have hle := entsT_le x.ents (i + 1)
   rw [entsT_next h5, List.length_append] at hle
   have hent : (entT (x.ents[i]'h5)).length = 1 + (Lib.itoa (x.ents[i]'h5).1).length + 1 + (word (x.ents[i]'h5).2).length := by
    simp [entT]; omega
   rw [show st14 = BA [32] from rfl]
   refine ev_guard (Nat.ble_eq_true_of_le (by simp only [BA_size, List.length_append, List.length_cons, List.length_nil]; omega)) ?_
   refine ev_load 0 hp rfl rfl rfl (Nat.le_of_ble_eq_true rfl) (x := e) rfl ?_
   rw [BA_append]
   unfold f29c6
   refine ev_guard ((inB_nat i _).trans (decide_eq_true (by omega))) ?_
   obtain ⟨ae, hae⟩ := hro.some (hp.has fun t ht => .tail _ (hD t ht)) (show i < e.2.1 by omega)
   have hro' := hro
   rw [hae] at hro' ⊢
   refine ev_fld (i := i) hp (fun t ht => .tail _ (hD t ht)) hro' (show i < e.2.1 by omega) (j := 0) (by decide) (x := (x.ents[i]'h5).1) (by rw [entC_at _ _ h5]; rfl) ?_
   refine ev_load 0 hp rfl rfl rfl (Nat.le_of_ble_eq_true rfl) (x := e) rfl ?_
   refine ev_guard ((inB_nat i _).trans (decide_eq_true (by omega))) ?_
   rw [hae]
   refine ev_fld (i := i) hp (fun t ht => .tail _ (hD t ht)) hro' (show i < e.2.1 by omega) (j := 1) (by decide) (x := BA (x.ents[i]'h5).2) (by rw [entC_at _ _ h5]; rfl) ?_
   refine ((refNumberG hin).mono (show 1 ≤ 2 by decide)).use hn hp rfl fun A5 hp => ?_
   unfold f29c5
   refine ev_fld (i := i) hp (fun t ht => .tail _ (hD t ht)) hro' (show i < e.2.1 by omega) (j := 1) (by decide) (x := BA (x.ents[i]'h5).2) (by rw [entC_at _ _ h5]; rfl) (ev_cond_t (by simp [veqv, veq1, BA_seq]) ?_)
   refine ev_load 0 hp rfl rfl rfl (Nat.le_of_ble_eq_true rfl) (x := e) rfl (ev_cond_t (by simp [veqv, veq1]) ?_)
   rw [show st14 = BA [32] from rfl]
   refine ev_guard (Nat.ble_eq_true_of_le (by simp only [BA_size, List.length_append, List.length_cons, List.length_nil]; omega)) ?_
   rw [BA_append]
   refine ev_guard (Nat.ble_eq_true_of_le (by simp only [BA_size, List.length_append, List.length_cons, List.length_nil]; omega)) ?_
   rw [BA_append]
   refine (refQuoteG (x.ents[i]'h5).2 (by omega)).use hn hp rfl fun A6 hp => ?_
   refine ev_guard (Nat.ble_eq_true_of_le (by simp only [BA_size, List.length_append, List.length_cons, List.length_nil]; omega)) ?_
   rw [BA_append]
   refine ev_pure ⟨x.ents.length - (i + 1), by omega, i + 1, rfl, by omega, ?_, hp⟩
   rw [addW_1 (by omega), entsT_next h5]
   simp only [entT, List.append_assoc]
  ·have h5 : ¬ i < x.ents.length := of_decide_eq_false h
   refine ev_pure (hgo2 _ A4 ⟨hp, ?_⟩)
   rw [List.take_of_length_le (by omega)]
 rw [if_neg (by rw [h3]; decide)] at hgo2
 refine ev_join (fun j A' => Hp (tabsOf os) A' (.cells b0 (rwC x d e) t0 false (0, 0) false :: l) ∧ j = ((eqB x.kind 15 || eqB x.kind 16), ())) ?_ fun go3 hgo3 => ?_
 rotate_left
 ·refine ev_ite (fun h5 => hgo3 _ A3 ⟨hp, by rw [h5]; rfl⟩) fun h5 => hgo3 _ A3 ⟨hp, by rw [h5]; rfl⟩
 rintro _ A4 ⟨hp, rfl⟩
 refine ev_ite (fun h5 => ?_) fun h5 => ?_
 ·have h5 : (eqB x.kind 15 || eqB x.kind 16) = true := h5
  rw [if_pos h5] at hgo2
  refine ev_load 0 hp rfl rfl rfl (Nat.le_of_ble_eq_true rfl) (x := x.is) rfl ?_
  rw [show st19 = BA [32, 121, 101, 115] from rfl, show st20 = BA [32, 110, 111] from rfl]
  refine ev_ite (fun h6 => ?_) fun h6 => ?_
  ·rw [if_pos h6] at hgo2
   refine ev_guard (Nat.ble_eq_true_of_le (by simp only [BA_size, List.length_cons, List.length_nil]; omega)) ?_
   rw [BA_append]
   exact hgo2 _ A4 ⟨hp, rfl⟩
  ·rw [if_neg (by rw [h6]; decide)] at hgo2
   refine ev_guard (Nat.ble_eq_true_of_le (by simp only [BA_size, List.length_cons, List.length_nil]; omega)) ?_
   rw [BA_append]
   exact hgo2 _ A4 ⟨hp, rfl⟩
 ·have h5 : (eqB x.kind 15 || eqB x.kind 16) = false := h5
  rw [if_neg (by rw [h5]; decide), List.append_nil] at hgo2
  exact hgo2 _ A4 ⟨hp, rfl⟩
end
end Go.Proofs.YtlcigkdflbfdgaaGreatDoor.sg
