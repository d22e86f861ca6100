/-
 Plain facts about texts: runes, words, their ends.
-/
import GoSem.Core.Utf8
import Derived.Lib.Bytealg
import Derived.Lib.AtoiAll
import Derived.Lib.ItoaNum
namespace Go.Sh
open Go
def at' (l : List UInt8) (k : Nat) : Nat := ((l[k]?).getD 0).toNat
theorem at_lt (l : List UInt8) (k : Nat) : at' l k < 256 := UInt8.toNat_lt _
def cont (l : List UInt8) (k : Nat) : Bool := decide (k < l.length) && at' l k / 64 == 2
def dec (l : List UInt8) : Nat × Nat :=
 if at' l 0 < 0x80 then (at' l 0, 1)
 else if at' l 0 / 32 == 6 && cont l 1 then
  let c := (at' l 0 % 32) * 64 + at' l 1 % 64
  if c ≥ 0x80 then (c, 2) else (0xFFFD, 1)
 else if at' l 0 / 16 == 14 && cont l 1 && cont l 2 then
  let c := (at' l 0 % 16) * 4096 + (at' l 1 % 64) * 64 + at' l 2 % 64
  if c ≥ 0x800 && Utf8.valid c then (c, 3) else (0xFFFD, 1)
 else if at' l 0 / 8 == 30 && cont l 1 && cont l 2 && cont l 3 then
  let c := (at' l 0 % 8) * 262144 + (at' l 1 % 64) * 4096 + (at' l 2 % 64) * 64 + at' l 3 % 64
  if c ≥ 0x10000 && Utf8.valid c then (c, 4) else (0xFFFD, 1)
 else (0xFFFD, 1)
theorem get_drop (s : ByteArray) (i k : Nat) : (s.get! (i + k)).toNat = at' (s.data.toList.drop i) k := by
 unfold at' ByteArray.get!
 rw [List.getElem?_drop, Array.getElem?_toList]
 cases s with
 | mk d =>
  show (d[i + k]!).toNat = _
  rw [getElem!_def]
  cases d[i + k]? <;> rfl
theorem decode_eq (s : ByteArray) (i : Nat) : Utf8.decode s i = dec (s.data.toList.drop i) := by
 have hc : ∀ k, (decide (i + k < s.size) && at' (s.data.toList.drop i) k / 64 == 2) = cont (s.data.toList.drop i) k := fun k => by
  unfold cont
  congr 1
  apply decide_eq_decide.2
  have : s.size = s.data.toList.length := by cases s; simp [ByteArray.size]
  rw [List.length_drop]
  omega
 unfold Utf8.decode dec
 simp only [get_drop, hc, Utf8.runeError]
theorem cont_len {l : List UInt8} {k : Nat} (h : cont l k = true) : k < l.length := by
 unfold cont at h
 simp only [Bool.and_eq_true, decide_eq_true_eq] at h
 exact h.1
theorem cont_val {l : List UInt8} {k : Nat} (h : cont l k = true) : 128 ≤ at' l k ∧ at' l k < 192 := by
 unfold cont at h
 simp only [Bool.and_eq_true, decide_eq_true_eq, beq_iff_eq] at h
 omega
inductive Dec (l : List UInt8) : Nat → Nat → Prop
 | one (h : at' l 0 < 128) : Dec l (at' l 0) 1
 | two (h0 : 192 ≤ at' l 0) (h0' : at' l 0 < 224) (h1 : cont l 1 = true) (hc : 128 ≤ (at' l 0 - 192) * 64 + (at' l 1 - 128)) : Dec l ((at' l 0 - 192) * 64 + (at' l 1 - 128)) 2
 | three (h0 : 224 ≤ at' l 0) (h0' : at' l 0 < 240) (h1 : cont l 1 = true) (h2 : cont l 2 = true) (hc : 2048 ≤ (at' l 0 - 224) * 4096 + (at' l 1 - 128) * 64 + (at' l 2 - 128))
   (hv : (at' l 0 - 224) * 4096 + (at' l 1 - 128) * 64 + (at' l 2 - 128) < 0xD800 ∨ 0xE000 ≤ (at' l 0 - 224) * 4096 + (at' l 1 - 128) * 64 + (at' l 2 - 128)) : Dec l ((at' l 0 - 224) * 4096 + (at' l 1 - 128) * 64 + (at' l 2 - 128)) 3
 | four (h0 : 240 ≤ at' l 0) (h0' : at' l 0 < 248) (h1 : cont l 1 = true) (h2 : cont l 2 = true) (h3 : cont l 3 = true) (hc : 65536 ≤ (at' l 0 - 240) * 262144 + (at' l 1 - 128) * 4096 + (at' l 2 - 128) * 64 + (at' l 3 - 128))
   (hv : (at' l 0 - 240) * 262144 + (at' l 1 - 128) * 4096 + (at' l 2 - 128) * 64 + (at' l 3 - 128) ≤ 0x10FFFF) : Dec l ((at' l 0 - 240) * 262144 + (at' l 1 - 128) * 4096 + (at' l 2 - 128) * 64 + (at' l 3 - 128)) 4
 | bad (h : 128 ≤ at' l 0) : Dec l 0xFFFD 1
theorem valid_nat (c : Nat) : Utf8.valid (c : Int) = true ↔ c < 0xD800 ∨ (0xE000 ≤ c ∧ c ≤ 0x10FFFF) := by
 unfold Utf8.valid
 simp only [Bool.or_eq_true, Bool.and_eq_true, decide_eq_true_eq]
 omega
theorem dec_dec (l : List UInt8) : Dec l (dec l).1 (dec l).2 := by
 unfold dec
 by_cases h : at' l 0 < 128
 ·rw [if_pos h]; exact .one h
 ·rw [if_neg h]
  have h' : 128 ≤ at' l 0 := by omega
  split
  ·rename_i h2
   simp only [Bool.and_eq_true, beq_iff_eq] at h2
   obtain ⟨a, b⟩ := h2
   have := cont_val b
   have e : at' l 0 % 32 * 64 + at' l 1 % 64 = (at' l 0 - 192) * 64 + (at' l 1 - 128) := by omega
   simp only [e]
   split
   ·rename_i hc
    exact .two (by omega) (by omega) b hc
   ·exact .bad h'
  ·split
   ·rename_i h2
    simp only [Bool.and_eq_true, beq_iff_eq] at h2
    obtain ⟨⟨a, b⟩, c⟩ := h2
    have := cont_val b
    have := cont_val c
    have e : at' l 0 % 16 * 4096 + at' l 1 % 64 * 64 + at' l 2 % 64 = (at' l 0 - 224) * 4096 + (at' l 1 - 128) * 64 + (at' l 2 - 128) := by omega
    simp only [e]
    split
    ·rename_i hc
     simp only [Bool.and_eq_true, decide_eq_true_eq, valid_nat] at hc
     exact .three (by omega) (by omega) b c hc.1 (by omega)
    ·exact .bad h'
   ·split
    ·rename_i h2
     simp only [Bool.and_eq_true, beq_iff_eq] at h2
     obtain ⟨⟨⟨a, b⟩, c⟩, d⟩ := h2
     have := cont_val b
     have := cont_val c
     have := cont_val d
     have e : at' l 0 % 8 * 262144 + at' l 1 % 64 * 4096 + at' l 2 % 64 * 64 + at' l 3 % 64 = (at' l 0 - 240) * 262144 + (at' l 1 - 128) * 4096 + (at' l 2 - 128) * 64 + (at' l 3 - 128) := by omega
     simp only [e]
     split
     ·rename_i hc
      simp only [Bool.and_eq_true, decide_eq_true_eq, valid_nat] at hc
      exact .four (by omega) (by omega) b c d hc.1 (by omega)
     ·exact .bad h'
    ·exact .bad h'
theorem dec_pos (l : List UInt8) : 1 ≤ (dec l).2 := by
 have := dec_dec l
 revert this
 generalize (dec l).1 = r, (dec l).2 = n
 intro h
 cases h <;> omega
theorem dec_len {l : List UInt8} (hl : l ≠ []) : (dec l).2 ≤ l.length := by
 have hp : 1 ≤ l.length := by
  cases l with
  | nil => exact absurd rfl hl
  | cons _ _ => simp
 have := dec_dec l
 revert this
 generalize (dec l).1 = r, (dec l).2 = n
 intro h
 cases h with
 | one _ => exact hp
 | two _ _ h1 _ => exact cont_len h1
 | three _ _ _ h2 _ _ => exact cont_len h2
 | four _ _ _ _ h3 _ _ => exact cont_len h3
 | bad _ => exact hp
def refRune (l : List UInt8) : Nat × Nat × Bool :=
 let c := at' l 0
 if c < 128 then (c, 1, false) else
 let p : Nat × Nat × Nat := if 0xc0 ≤ c ∧ c < 0xe0 then (2, 0x80, c - 0xc0) else if 0xe0 ≤ c ∧ c < 0xf0 then (3, 0x800, c - 0xe0) else if 0xf0 ≤ c ∧ c < 0xf8 then (4, 0x10000, c - 0xf0) else (0, 0, 0)
 if p.1 = 0 ∨ l.length < p.1 then (0xfffd, 1, true) else
 let ok (i : Nat) : Bool := !(decide (at' l i < 0x80) || decide (at' l i > 0xbf))
 let r := match p.1 with
  | 2 => 64 * p.2.2 + at' l 1 - 0x80
  | 3 => 64 * (64 * p.2.2 + at' l 1 - 0x80) + at' l 2 - 0x80
  | _ => 64 * (64 * (64 * p.2.2 + at' l 1 - 0x80) + at' l 2 - 0x80) + at' l 3 - 0x80
 if (List.range (p.1 - 1)).all (fun i => ok (i + 1)) then
  if r < p.2.1 ∨ r > 0x10ffff ∨ (r ≥ 0xd800 ∧ r < 0xe000) then (0xfffd, 1, true) else (r, p.1, false)
 else (0xfffd, 1, true)
theorem cont_iff {l : List UInt8} {k : Nat} : cont l k = true ↔ k < l.length ∧ 128 ≤ at' l k ∧ at' l k < 192 := by
 unfold cont
 simp only [Bool.and_eq_true, decide_eq_true_eq, beq_iff_eq]
 omega
theorem toNat_inj {a b : UInt8} (h : a.toNat = b.toNat) : a = b := UInt8.toNat_inj.1 h
theorem at_get {l : List UInt8} {k : Nat} (h : k < l.length) : l[k].toNat = at' l k := by
 unfold at'
 rw [List.getElem?_eq_getElem h]; rfl
theorem ofNat_at {l : List UInt8} {k n : Nat} (h : k < l.length) (e : n = at' l k) : UInt8.ofNat n = l[k] := by
 apply toNat_inj
 rw [at_get h, e]
 have := at_lt l k
 simp
 omega
theorem take2 {l : List UInt8} (h : 1 < l.length) : l.take 2 = [l[0], l[1]] := by
 match l, h with
 | a :: b :: t, _ => rfl
theorem take3 {l : List UInt8} (h : 2 < l.length) : l.take 3 = [l[0], l[1], l[2]] := by
 match l, h with
 | a :: b :: c :: t, _ => rfl
theorem take4 {l : List UInt8} (h : 3 < l.length) : l.take 4 = [l[0], l[1], l[2], l[3]] := by
 match l, h with
 | a :: b :: c :: d :: t, _ => rfl
theorem l2 {a b c d : UInt8} (h1 : a = c) (h2 : b = d) : [a, b] = [c, d] := by rw [h1, h2]
theorem l3 {a b c d e f : UInt8} (h1 : a = d) (h2 : b = e) (h3 : c = f) : [a, b, c] = [d, e, f] := by rw [h1, h2, h3]
theorem l4 {a b c d e f g h : UInt8} (h1 : a = e) (h2 : b = f) (h3 : c = g) (h4 : d = h) : [a, b, c, d] = [e, f, g, h] := by rw [h1, h2, h3, h4]
theorem encode_dec {l : List UInt8} (hl : l ≠ []) {r n : Nat} (h : Dec l r n) (hs : ¬ (r = 0xFFFD ∧ n = 1)) : (Utf8.encode (r : Int)).data.toList = l.take n := by
 cases h with
 | bad h => exact absurd ⟨rfl, rfl⟩ hs
 | one h0 =>
  have hv : Utf8.valid ((at' l 0 : Nat) : Int) = true := (valid_nat _).2 (by omega)
  unfold Utf8.encode
  simp only [hv, if_true, Int.toNat_natCast, if_pos h0]
  cases l with
  | nil => exact absurd rfl hl
  | cons a t =>
   show [UInt8.ofNat (at' (a :: t) 0)] = [a]
   rw [ofNat_at (k := 0) (l := a :: t) (by simp) rfl]; rfl
 | two h0 h0' h1 hc =>
  have k1 := cont_iff.1 h1
  have hv : Utf8.valid (((at' l 0 - 192) * 64 + (at' l 1 - 128) : Nat) : Int) = true := (valid_nat _).2 (by omega)
  unfold Utf8.encode
  simp only [hv, if_true, Int.toNat_natCast]
  rw [if_neg (by omega), if_pos (by omega)]
  rw [take2 k1.1]
  exact l2 (ofNat_at (by omega) (by omega)) (ofNat_at k1.1 (by omega))
 | three h0 h0' h1 h2 hc hv =>
  have k1 := cont_iff.1 h1
  have k2 := cont_iff.1 h2
  have hv : Utf8.valid (((at' l 0 - 224) * 4096 + (at' l 1 - 128) * 64 + (at' l 2 - 128) : Nat) : Int) = true := (valid_nat _).2 (by omega)
  unfold Utf8.encode
  simp only [hv, if_true, Int.toNat_natCast]
  rw [if_neg (by omega), if_neg (by omega), if_pos (by omega)]
  rw [take3 k2.1]
  exact l3 (ofNat_at (by omega) (by omega)) (ofNat_at k1.1 (by omega)) (ofNat_at k2.1 (by omega))
 | four h0 h0' h1 h2 h3 hc hv =>
  have k1 := cont_iff.1 h1
  have k2 := cont_iff.1 h2
  have k3 := cont_iff.1 h3
  have hv : Utf8.valid (((at' l 0 - 240) * 262144 + (at' l 1 - 128) * 4096 + (at' l 2 - 128) * 64 + (at' l 3 - 128) : Nat) : Int) = true := (valid_nat _).2 (by omega)
  unfold Utf8.encode
  simp only [hv, if_true, Int.toNat_natCast]
  rw [if_neg (by omega), if_neg (by omega), if_neg (by omega)]
  rw [take4 k3.1]
  exact l4 (ofNat_at (by omega) (by omega)) (ofNat_at k1.1 (by omega)) (ofNat_at k2.1 (by omega)) (ofNat_at k3.1 (by omega))
end Go.Sh
namespace Go.Sh
open Go
def v2 (l : List UInt8) : Nat := (at' l 0 - 192) * 64 + (at' l 1 - 128)
def v3 (l : List UInt8) : Nat := (at' l 0 - 224) * 4096 + (at' l 1 - 128) * 64 + (at' l 2 - 128)
def v4 (l : List UInt8) : Nat := (at' l 0 - 240) * 262144 + (at' l 1 - 128) * 4096 + (at' l 2 - 128) * 64 + (at' l 3 - 128)
def is2 (l : List UInt8) : Bool := decide (192 ≤ at' l 0) && decide (at' l 0 < 224) && cont l 1 && decide (128 ≤ v2 l)
def is3 (l : List UInt8) : Bool := decide (224 ≤ at' l 0) && decide (at' l 0 < 240) && cont l 1 && cont l 2 && decide (2048 ≤ v3 l) && (decide (v3 l < 0xD800) || decide (0xE000 ≤ v3 l))
def is4 (l : List UInt8) : Bool := decide (240 ≤ at' l 0) && decide (at' l 0 < 248) && cont l 1 && cont l 2 && cont l 3 && decide (65536 ≤ v4 l) && decide (v4 l ≤ 0x10FFFF)
def rune (l : List UInt8) : Nat × Nat := if at' l 0 < 128 then (at' l 0, 1) else if is2 l then (v2 l, 2) else if is3 l then (v3 l, 3) else if is4 l then (v4 l, 4) else (0xFFFD, 1)
theorem dec_rune (l : List UInt8) : dec l = rune l := by
 unfold dec rune
 by_cases h : at' l 0 < 128
 ·rw [if_pos h, if_pos h]
 rw [if_neg h, if_neg h]
 by_cases h2 : at' l 0 / 32 = 6 ∧ cont l 1 = true
 ·have k1 := cont_iff.1 h2.2
  rw [if_pos (by simp [h2.1, h2.2])]
  have e : at' l 0 % 32 * 64 + at' l 1 % 64 = v2 l := by unfold v2; omega
  simp only [e]
  have n3 : is3 l = false := by
   unfold is3
   rw [decide_eq_false (show ¬ 224 ≤ at' l 0 by omega)]; rfl
  have n4 : is4 l = false := by
   unfold is4
   rw [decide_eq_false (show ¬ 240 ≤ at' l 0 by omega)]; rfl
  have i2 : is2 l = decide (128 ≤ v2 l) := by
   unfold is2
   rw [decide_eq_true (show 192 ≤ at' l 0 by omega), decide_eq_true (show at' l 0 < 224 by omega), h2.2]
   simp only [Bool.true_and]
  rw [n3, n4, i2]
  by_cases hc : 128 ≤ v2 l
  ·simp [hc]
  ·simp [hc]
 ·have n2 : is2 l = false := by
   cases hh : is2 l with
   | false => rfl
   | true =>
    unfold is2 at hh
    simp only [Bool.and_eq_true, decide_eq_true_eq] at hh
    exact absurd ⟨by omega, hh.1.2⟩ h2
  rw [if_neg (by simp only [Bool.and_eq_true, beq_iff_eq]; exact h2), n2]
  by_cases h3 : at' l 0 / 16 = 14 ∧ cont l 1 = true ∧ cont l 2 = true
  ·have k1 := cont_iff.1 h3.2.1
   have k2 := cont_iff.1 h3.2.2
   rw [if_pos (by simp [h3.1, h3.2.1, h3.2.2])]
   have e : at' l 0 % 16 * 4096 + at' l 1 % 64 * 64 + at' l 2 % 64 = v3 l := by unfold v3; omega
   simp only [e]
   have hlt : v3 l ≤ 0x10FFFF := by unfold v3; omega
   have n4 : is4 l = false := by
    unfold is4
    rw [decide_eq_false (show ¬ 240 ≤ at' l 0 by omega)]; rfl
   have i3 : is3 l = (decide (2048 ≤ v3 l) && (decide (v3 l < 0xD800) || decide (0xE000 ≤ v3 l))) := by
    unfold is3
    rw [decide_eq_true (show 224 ≤ at' l 0 by omega), decide_eq_true (show at' l 0 < 240 by omega), h3.2.1, h3.2.2]
    simp only [Bool.true_and]
   have ev : Utf8.valid ((v3 l : Nat) : Int) = (decide (v3 l < 0xD800) || decide (0xE000 ≤ v3 l)) := by
    rw [Bool.eq_iff_iff, valid_nat]
    simp only [Bool.or_eq_true, decide_eq_true_eq]
    omega
   rw [n4, i3, ev]
   simp
  ·have n3 : is3 l = false := by
    cases hh : is3 l with
    | false => rfl
    | true =>
     unfold is3 at hh
     simp only [Bool.and_eq_true, decide_eq_true_eq] at hh
     exact absurd ⟨by omega, hh.1.1.1.2, hh.1.1.2⟩ h3
   rw [if_neg (by simp only [Bool.and_eq_true, beq_iff_eq]; exact fun x => h3 ⟨x.1.1, x.1.2, x.2⟩), n3]
   by_cases h4 : at' l 0 / 8 = 30 ∧ cont l 1 = true ∧ cont l 2 = true ∧ cont l 3 = true
   ·have k1 := cont_iff.1 h4.2.1
    have k2 := cont_iff.1 h4.2.2.1
    have k3 := cont_iff.1 h4.2.2.2
    rw [if_pos (by simp [h4.1, h4.2.1, h4.2.2.1, h4.2.2.2])]
    have e : at' l 0 % 8 * 262144 + at' l 1 % 64 * 4096 + at' l 2 % 64 * 64 + at' l 3 % 64 = v4 l := by unfold v4; omega
    simp only [e]
    have i4 : is4 l = (decide (65536 ≤ v4 l) && decide (v4 l ≤ 0x10FFFF)) := by
     unfold is4
     rw [decide_eq_true (show 240 ≤ at' l 0 by omega), decide_eq_true (show at' l 0 < 248 by omega), h4.2.1, h4.2.2.1, h4.2.2.2]
     simp only [Bool.true_and]
    have ev : (decide (v4 l ≥ 65536) && Utf8.valid ((v4 l : Nat) : Int)) = (decide (65536 ≤ v4 l) && decide (v4 l ≤ 0x10FFFF)) := by
     rw [Bool.eq_iff_iff]
     simp only [Bool.and_eq_true, valid_nat, decide_eq_true_eq]
     omega
    rw [i4, ev]
    simp
   ·have n4 : is4 l = false := by
     cases hh : is4 l with
     | false => rfl
     | true =>
      unfold is4 at hh
      simp only [Bool.and_eq_true, decide_eq_true_eq] at hh
      exact absurd ⟨by omega, hh.1.1.1.1.2, hh.1.1.1.2, hh.1.1.2⟩ h4
    rw [if_neg (by simp only [Bool.and_eq_true, beq_iff_eq]; exact fun x => h4 ⟨x.1.1.1, x.1.1.2, x.1.2, x.2⟩), n4]
    simp
theorem at_append {a b : List UInt8} {k : Nat} (h : k < a.length) : at' (a ++ b) k = at' a k := by
 unfold at'
 rw [List.getElem?_append_left h]
theorem cont_append {a b : List UInt8} {k : Nat} (h : k < a.length) : cont (a ++ b) k = cont a k := by
 unfold cont
 rw [at_append h, decide_eq_true h, decide_eq_true (show k < (a ++ b).length by simp; omega)]
end Go.Sh
namespace Go.Sh
open Go
def bad (l : List UInt8) : Bool := decide (128 ≤ at' l 0) && !is2 l && !is3 l && !is4 l
theorem okB (l : List UInt8) (i : Nat) : (!(decide (at' l i < 0x80) || decide (at' l i > 0xbf))) = decide (128 ≤ at' l i ∧ at' l i < 192) := by
 rw [Bool.eq_iff_iff]
 simp only [Bool.not_eq_true', Bool.or_eq_false_iff, decide_eq_false_iff_not, decide_eq_true_eq]
 omega
theorem range_all1 (p : Nat → Bool) : (List.range 1).all (fun i => p (i + 1)) = p 1 := by simp [List.range, List.range.loop]
theorem range_all2 (p : Nat → Bool) : (List.range 2).all (fun i => p (i + 1)) = (p 1 && p 2) := by simp [List.range, List.range.loop]
theorem range_all3 (p : Nat → Bool) : (List.range 3).all (fun i => p (i + 1)) = (p 1 && (p 2 && p 3)) := by simp [List.range, List.range.loop]
theorem refRune_eq (l : List UInt8) : refRune l = ((rune l).1, (rune l).2, bad l) := by
 unfold refRune rune bad
 by_cases h : at' l 0 < 128
 ·simp only [if_pos h]
  rw [decide_eq_false (show ¬ 128 ≤ at' l 0 by omega)]; rfl
 rw [decide_eq_true (show 128 ≤ at' l 0 by omega)]
 simp only [if_neg h, Bool.true_and]
 by_cases r2 : 0xc0 ≤ at' l 0 ∧ at' l 0 < 0xe0
 ·have n3 : is3 l = false := by
   unfold is3
   rw [decide_eq_false (show ¬ 224 ≤ at' l 0 by omega)]; rfl
  have n4 : is4 l = false := by
   unfold is4
   rw [decide_eq_false (show ¬ 240 ≤ at' l 0 by omega)]; rfl
  simp only [if_pos r2, n3, n4, Bool.not_false, Bool.and_true]
  have hr : (List.range (2 - 1)).all (fun i => !(decide (at' l (i + 1) < 0x80) || decide (at' l (i + 1) > 0xbf))) = decide (128 ≤ at' l 1 ∧ at' l 1 < 192) := by
   rw [← okB]; exact range_all1 fun i => !(decide (at' l i < 0x80) || decide (at' l i > 0xbf))
  simp only [hr]
  by_cases hc : cont l 1 = true
  ·have k1 := cont_iff.1 hc
   rw [if_neg (by omega), if_pos (by rw [decide_eq_true_eq]; exact k1.2)]
   have e : 64 * (at' l 0 - 0xc0) + at' l 1 - 0x80 = v2 l := by unfold v2; omega
   have i2 : is2 l = decide (128 ≤ v2 l) := by
    unfold is2
    rw [decide_eq_true (show 192 ≤ at' l 0 by omega), decide_eq_true (show at' l 0 < 224 by omega), hc]
    simp only [Bool.true_and]
   have hlt : v2 l < 0xd800 := by unfold v2; omega
   rw [i2, e]
   by_cases hv : 128 ≤ v2 l
   ·rw [if_neg (by omega), decide_eq_true hv]; rfl
   ·rw [if_pos (by omega), decide_eq_false hv]; rfl
  ·have i2 : is2 l = false := by
    unfold is2
    rw [Bool.eq_false_iff.2 hc]
    simp only [Bool.and_false, Bool.false_and]
   rw [i2]
   split
   ·rfl
   ·rename_i hlen
    rw [if_neg (by rw [decide_eq_true_eq]; exact fun x => hc (cont_iff.2 ⟨by omega, x⟩))]; rfl
 have n2 : is2 l = false := by
  unfold is2
  cases h1 : decide (192 ≤ at' l 0) with
  | false => rfl
  | true =>
   rw [decide_eq_false (show ¬ at' l 0 < 224 by rw [decide_eq_true_eq] at h1; omega)]; rfl
 simp only [if_neg r2, n2, Bool.not_false, Bool.true_and]
 by_cases r3 : 0xe0 ≤ at' l 0 ∧ at' l 0 < 0xf0
 ·have n4 : is4 l = false := by
   unfold is4
   rw [decide_eq_false (show ¬ 240 ≤ at' l 0 by omega)]; rfl
  simp only [if_pos r3, n4, Bool.not_false, Bool.and_true]
  have hr : (List.range (3 - 1)).all (fun i => !(decide (at' l (i + 1) < 0x80) || decide (at' l (i + 1) > 0xbf))) = (decide (128 ≤ at' l 1 ∧ at' l 1 < 192) && decide (128 ≤ at' l 2 ∧ at' l 2 < 192)) := by
   rw [← okB, ← okB]; exact range_all2 fun i => !(decide (at' l i < 0x80) || decide (at' l i > 0xbf))
  simp only [hr]
  by_cases hc : cont l 1 = true ∧ cont l 2 = true
  ·have k1 := cont_iff.1 hc.1
   have k2 := cont_iff.1 hc.2
   rw [if_neg (by omega), if_pos (by rw [Bool.and_eq_true, decide_eq_true_eq, decide_eq_true_eq]; exact ⟨k1.2, k2.2⟩)]
   have e : 64 * (64 * (at' l 0 - 0xe0) + at' l 1 - 0x80) + at' l 2 - 0x80 = v3 l := by unfold v3; omega
   have i3 : is3 l = (decide (2048 ≤ v3 l) && (decide (v3 l < 0xD800) || decide (0xE000 ≤ v3 l))) := by
    unfold is3
    rw [decide_eq_true (show 224 ≤ at' l 0 by omega), decide_eq_true (show at' l 0 < 240 by omega), hc.1, hc.2]
    simp only [Bool.true_and]
   have hlt : v3 l < 0x110000 := by unfold v3; omega
   rw [i3, e]
   by_cases hv : 2048 ≤ v3 l ∧ (v3 l < 0xD800 ∨ 0xE000 ≤ v3 l)
   ·have hb : (decide (2048 ≤ v3 l) && (decide (v3 l < 0xD800) || decide (0xE000 ≤ v3 l))) = true := by
     simp only [Bool.and_eq_true, Bool.or_eq_true, decide_eq_true_eq]; exact hv
    rw [if_neg (by omega), hb]; rfl
   ·have hb : (decide (2048 ≤ v3 l) && (decide (v3 l < 0xD800) || decide (0xE000 ≤ v3 l))) = false := by
     rw [Bool.eq_false_iff]
     simp only [ne_eq, Bool.and_eq_true, Bool.or_eq_true, decide_eq_true_eq]; exact hv
    rw [if_pos (by omega), hb]; rfl
  ·have i3 : is3 l = false := by
    cases hh : is3 l with
    | false => rfl
    | true =>
     unfold is3 at hh
     simp only [Bool.and_eq_true, decide_eq_true_eq] at hh
     exact absurd ⟨hh.1.1.1.2, hh.1.1.2⟩ hc
   rw [i3]
   split
   ·rfl
   ·rename_i hlen
    rw [if_neg (by
     rw [Bool.and_eq_true, decide_eq_true_eq, decide_eq_true_eq]
     exact fun x => hc ⟨cont_iff.2 ⟨by omega, x.1⟩, cont_iff.2 ⟨by omega, x.2⟩⟩)]; rfl
 have n3 : is3 l = false := by
  unfold is3
  cases h1 : decide (224 ≤ at' l 0) with
  | false => rfl
  | true =>
   rw [decide_eq_false (show ¬ at' l 0 < 240 by rw [decide_eq_true_eq] at h1; omega)]; rfl
 simp only [if_neg r3, n3, Bool.not_false, Bool.true_and]
 by_cases r4 : 0xf0 ≤ at' l 0 ∧ at' l 0 < 0xf8
 ·simp only [if_pos r4]
  have hr : (List.range (4 - 1)).all (fun i => !(decide (at' l (i + 1) < 0x80) || decide (at' l (i + 1) > 0xbf))) = (decide (128 ≤ at' l 1 ∧ at' l 1 < 192) && (decide (128 ≤ at' l 2 ∧ at' l 2 < 192) && decide (128 ≤ at' l 3 ∧ at' l 3 < 192))) := by
   rw [← okB, ← okB, ← okB]; exact range_all3 fun i => !(decide (at' l i < 0x80) || decide (at' l i > 0xbf))
  simp only [hr]
  by_cases hc : cont l 1 = true ∧ cont l 2 = true ∧ cont l 3 = true
  ·have k1 := cont_iff.1 hc.1
   have k2 := cont_iff.1 hc.2.1
   have k3 := cont_iff.1 hc.2.2
   rw [if_neg (by omega), if_pos (by rw [Bool.and_eq_true, Bool.and_eq_true, decide_eq_true_eq, decide_eq_true_eq, decide_eq_true_eq]; exact ⟨k1.2, k2.2, k3.2⟩)]
   have e : 64 * (64 * (64 * (at' l 0 - 0xf0) + at' l 1 - 0x80) + at' l 2 - 0x80) + at' l 3 - 0x80 = v4 l := by unfold v4; omega
   have i4 : is4 l = (decide (65536 ≤ v4 l) && decide (v4 l ≤ 0x10FFFF)) := by
    unfold is4
    rw [decide_eq_true (show 240 ≤ at' l 0 by omega), decide_eq_true (show at' l 0 < 248 by omega), hc.1, hc.2.1, hc.2.2]
    simp only [Bool.true_and]
   rw [i4, e]
   by_cases hv : 65536 ≤ v4 l ∧ v4 l ≤ 0x10FFFF
   ·rw [if_neg (by omega), decide_eq_true hv.1, decide_eq_true hv.2]; rfl
   ·have hb : (decide (65536 ≤ v4 l) && decide (v4 l ≤ 0x10FFFF)) = false := by
     rw [Bool.eq_false_iff]
     simp only [ne_eq, Bool.and_eq_true, decide_eq_true_eq]; exact hv
    rw [if_pos (by omega), hb]; rfl
  ·have i4 : is4 l = false := by
    cases hh : is4 l with
    | false => rfl
    | true =>
     unfold is4 at hh
     simp only [Bool.and_eq_true, decide_eq_true_eq] at hh
     exact absurd ⟨hh.1.1.1.1.2, hh.1.1.1.2, hh.1.1.2⟩ hc
   rw [i4]
   split
   ·rfl
   ·rename_i hlen
    rw [if_neg (by
     rw [Bool.and_eq_true, Bool.and_eq_true, decide_eq_true_eq, decide_eq_true_eq, decide_eq_true_eq]
     exact fun x => hc ⟨cont_iff.2 ⟨by omega, x.1⟩, cont_iff.2 ⟨by omega, x.2.1⟩, cont_iff.2 ⟨by omega, x.2.2⟩⟩)]; rfl
 have n4 : is4 l = false := by
  unfold is4
  cases h1 : decide (240 ≤ at' l 0) with
  | false => rfl
  | true =>
   rw [decide_eq_false (show ¬ at' l 0 < 248 by rw [decide_eq_true_eq] at h1; omega)]; rfl
 simp only [if_neg r4, n4]
 rfl
end Go.Sh
namespace Go.Sh
open Go
theorem rune_pos (l : List UInt8) : 1 ≤ (rune l).2 := by rw [← dec_rune]; exact dec_pos l
theorem rune_len {l : List UInt8} (h : l ≠ []) : (rune l).2 ≤ l.length := by rw [← dec_rune]; exact dec_len h
def hexd (n : Nat) : UInt8 := UInt8.ofNat (if n < 10 then 48 + n else 87 + n)
def hexv (c : UInt8) : Option Nat := if 48 ≤ c.toNat ∧ c.toNat ≤ 57 then some (c.toNat - 48) else if 97 ≤ c.toNat ∧ c.toNat ≤ 102 then some (c.toNat - 87) else none
theorem hexv_hexd : ∀ n : Fin 16, hexv (hexd n.val) = some n.val := by decide
def odd (l : List UInt8) : Bool := bad l || decide ((rune l).1 < 32) || decide ((rune l).1 = 127)
def inside : List UInt8 → List UInt8
 | [] => []
 | c :: t =>
  if odd (c :: t) then 92 :: 120 :: hexd (c.toNat / 16) :: hexd (c.toNat % 16) :: inside t
  else if c = 34 ∨ c = 92 then 92 :: c :: inside t
  else (c :: t).take (rune (c :: t)).2 ++ inside ((c :: t).drop (rune (c :: t)).2)
termination_by l => l.length
decreasing_by
 ·simp
 ·simp
 ·have := rune_pos (c :: t)
  simp only [List.length_drop, List.length_cons]
  omega
def readW : List UInt8 → Option (List UInt8 × List UInt8)
 | [] => none
 | c :: t =>
  if c = 34 then some ([], t)
  else if c = 92 then
   match t with
   | [] => none
   | x :: t1 =>
    if x = 120 then
     match t1 with
     | a :: b :: t2 => (match hexv a, hexv b with
      | some h, some l => (readW t2).map fun p => (UInt8.ofNat (16 * h + l) :: p.1, p.2)
      | _, _ => none)
     | _ => none
    else (readW t1).map fun p => (x :: p.1, p.2)
  else (readW t).map fun p => (c :: p.1, p.2)
termination_by l => l.length
theorem readW_cons (c : UInt8) (t : List UInt8) : readW (c :: t) = if c = 34 then some ([], t)
  else if c = 92 then
   match t with
   | [] => none
   | x :: t1 =>
    if x = 120 then
     match t1 with
     | a :: b :: t2 => (match hexv a, hexv b with
      | some h, some l => (readW t2).map fun p => (UInt8.ofNat (16 * h + l) :: p.1, p.2)
      | _, _ => none)
     | _ => none
    else (readW t1).map fun p => (x :: p.1, p.2)
  else (readW t).map fun p => (c :: p.1, p.2) := by rw [readW.eq_def]
theorem readW_plain : ∀ (p m : List UInt8), (∀ c ∈ p, c ≠ 34 ∧ c ≠ 92) → readW (p ++ m) = (readW m).map fun q => (p ++ q.1, q.2)
 | [], m, _ => by cases h : readW m <;> simp [h]
 | c :: p, m, h => by
  have hc := h c List.mem_cons_self
  rw [List.cons_append, readW_cons, if_neg hc.1, if_neg hc.2, readW_plain p m fun d hd => h d (List.mem_cons_of_mem _ hd)]
  cases readW m <;> rfl
theorem at_mem {l : List UInt8} {n : Nat} {c : UInt8} (h : c ∈ l.take n) : ∃ k, k < n ∧ c.toNat = at' l k := by
 obtain ⟨k, hk⟩ := List.mem_iff_getElem?.1 h
 rw [List.getElem?_take] at hk
 split at hk
 ·rename_i hn
  exact ⟨k, hn, by unfold at'; rw [hk]; rfl⟩
 ·cases hk
theorem rune_bytes {l : List UInt8} (hb : bad l = false) {k : Nat} (hk : k < (rune l).2) (h0 : 128 ≤ at' l 0) : 128 ≤ at' l k := by
 unfold bad at hb
 rw [decide_eq_true h0] at hb
 unfold rune at hk
 rw [if_neg (by omega)] at hk
 cases h2 : is2 l with
 | true =>
  rw [h2] at hk
  simp only [if_true] at hk
  unfold is2 at h2
  simp only [Bool.and_eq_true, decide_eq_true_eq] at h2
  have := cont_val h2.1.2
  rcases (show k = 0 ∨ k = 1 by omega) with rfl | rfl <;> omega
 | false =>
  rw [h2] at hk hb
  cases h3 : is3 l with
  | true =>
   rw [h3] at hk
   simp only [if_true, Bool.false_eq_true, if_false] at hk
   unfold is3 at h3
   simp only [Bool.and_eq_true, decide_eq_true_eq] at h3
   have := cont_val h3.1.1.1.2
   have := cont_val h3.1.1.2
   rcases (show k = 0 ∨ k = 1 ∨ k = 2 by omega) with rfl | rfl | rfl <;> omega
  | false =>
   rw [h3] at hk hb
   cases h4 : is4 l with
   | true =>
    rw [h4] at hk
    simp only [if_true, Bool.false_eq_true, if_false] at hk
    unfold is4 at h4
    simp only [Bool.and_eq_true, decide_eq_true_eq] at h4
    have := cont_val h4.1.1.1.1.2
    have := cont_val h4.1.1.1.2
    have := cont_val h4.1.1.2
    rcases (show k = 0 ∨ k = 1 ∨ k = 2 ∨ k = 3 by omega) with rfl | rfl | rfl | rfl <;> omega
   | false =>
    rw [h4] at hb
    cases hb
theorem readW_inside : ∀ (n : Nat) (b rest : List UInt8), b.length ≤ n → readW (inside b ++ 34 :: rest) = some (b, rest)
 | n, [], rest, _ => by rw [inside, List.nil_append, readW_cons, if_pos rfl]
 | 0, c :: t, rest, h => by simp at h
 | n + 1, c :: t, rest, h => by
  have ht : t.length ≤ n := by simpa using h
  rw [inside]
  by_cases ho : odd (c :: t) = true
  ·rw [if_pos ho]
   have hc := UInt8.toNat_lt c
   simp only [List.cons_append]
   rw [readW_cons, if_neg (by decide), if_pos rfl]
   simp only [if_true]
   have e1 := hexv_hexd ⟨c.toNat / 16, by omega⟩
   have e2 := hexv_hexd ⟨c.toNat % 16, by omega⟩
   simp only at e1 e2
   rw [e1, e2]
   simp only
   rw [readW_inside n t rest ht]
   simp only [Option.map_some, Option.some.injEq, Prod.mk.injEq, List.cons.injEq, and_true]
   rw [show 16 * (c.toNat / 16) + c.toNat % 16 = c.toNat by omega]
   exact UInt8.ofNat_toNat
  ·rw [if_neg ho]
   by_cases hq : c = 34 ∨ c = 92
   ·rw [if_pos hq]
    simp only [List.cons_append]
    rw [readW_cons, if_neg (by decide), if_pos rfl]
    have hx : c ≠ 120 := by rcases hq with rfl | rfl <;> decide
    simp only [if_neg hx]
    rw [readW_inside n t rest ht]; rfl
   ·rw [if_neg hq, List.append_assoc, readW_plain]
    ·have hp := rune_pos (c :: t)
     rw [readW_inside n _ rest (by simp only [List.length_drop, List.length_cons]; omega)]
     simp only [Option.map_some, List.take_append_drop]
    ·intro d hd
     obtain ⟨k, hk, e⟩ := at_mem hd
     by_cases h0 : 128 ≤ at' (c :: t) 0
     ·have hb : bad (c :: t) = false := by
       cases hb : bad (c :: t) with
       | false => rfl
       | true => exact absurd (by unfold odd; rw [hb]; rfl) ho
      have := rune_bytes hb hk h0
      constructor <;> (rintro rfl; simp at e; omega)
     ·have h1 : (rune (c :: t)).2 = 1 := by unfold rune; rw [if_pos (by omega)]
      have : k = 0 := by omega
      subst this
      have hd' : d = c := UInt8.toNat_inj.1 (by rw [e]; rfl)
      rw [hd']
      exact ⟨fun e => hq (.inl e), fun e => hq (.inr e)⟩
end Go.Sh
namespace Go.Sh
open Go
def word (b : List UInt8) : List UInt8 := 34 :: inside b ++ [34]
def unqR (s : List UInt8) : Option (List UInt8 × List UInt8) := match s with
 | [] => none
 | c :: t => if c = 34 then (match readW t with
  | some (b, rest) => if word b = s.take (s.length - rest.length) then some (b, rest) else none
  | none => none) else none
def scanE (m : Bool) (l : List UInt8) : Option Nat := match l with
 | [] => none
 | c :: t =>
  if m then (scanE false ((c :: t).drop (rune (c :: t)).2)).map (· + (rune (c :: t)).2)
  else if (rune (c :: t)).1 = 92 then (scanE true ((c :: t).drop (rune (c :: t)).2)).map (· + (rune (c :: t)).2)
  else if (rune (c :: t)).1 = 34 then some 1
  else (scanE false ((c :: t).drop (rune (c :: t)).2)).map (· + (rune (c :: t)).2)
termination_by l.length
decreasing_by
 all_goals
  have := rune_pos (c :: t)
  simp only [List.length_drop, List.length_cons]
  omega
def readG : List UInt8 → Option (List UInt8)
 | [] => some []
 | c :: t =>
  match (if c = 92 then t else []) with
  | [] => (readG t).map (c :: ·)
  | x :: t1 => if c = 92 then (match (if x = 120 then t1 else []) with
   | a :: b :: t2 => if 3 ≤ t.length then (match hexv a, hexv b with
    | some h, some l => if t2.length < t.length then (readG t2).map (UInt8.ofNat (16 * h + l) :: ·) else none
    | _, _ => none) else none
   | _ => if t1.length < t.length then (readG t1).map (x :: ·) else none) else none
termination_by l => l.length
theorem rune_one {l : List UInt8} (h : at' l 0 < 128) : rune l = (at' l 0, 1) := by unfold rune; rw [if_pos h]
theorem scan_one {m : Bool} {c : UInt8} {t : List UInt8} (hc : c.toNat < 128) : scanE m (c :: t) = if m then (scanE false t).map (· + 1) else if c = 92 then (scanE true t).map (· + 1) else if c = 34 then some 1 else (scanE false t).map (· + 1) := by
 have h0 : at' (c :: t) 0 = c.toNat := rfl
 have hr := rune_one (l := c :: t) (by rw [h0]; exact hc)
 rw [scanE.eq_def]
 simp only [hr, h0, List.drop_succ_cons, List.drop_zero]
 have e1 : (c.toNat = 92) = (c = 92) := propext ⟨fun h => UInt8.toNat_inj.1 (by rw [h]; rfl), fun h => by rw [h]; rfl⟩
 have e2 : (c.toNat = 34) = (c = 34) := propext ⟨fun h => UInt8.toNat_inj.1 (by rw [h]; rfl), fun h => by rw [h]; rfl⟩
 simp only [e1, e2]
theorem at_take {l : List UInt8} {n k : Nat} (h : k < n) : at' (l.take n) k = at' l k := by
 unfold at'
 rw [List.getElem?_take, if_pos h]
theorem cont_take {l : List UInt8} {n k : Nat} (h : k < n) : cont (l.take n) k = cont l k := by
 unfold cont
 rw [at_take h, List.length_take]
 congr 1
 apply decide_eq_decide.2
 omega
theorem rune_own {l m : List UInt8} (hl : l ≠ []) (hb : bad l = false) : rune (l.take (rune l).2 ++ m) = rune l := by
 have hp := rune_pos l
 have hn := rune_len hl
 have hat : ∀ k, k < (rune l).2 → at' (l.take (rune l).2 ++ m) k = at' l k := fun k hk => by
  rw [at_append (by rw [List.length_take]; omega), at_take hk]
 have hco : ∀ k, k < (rune l).2 → cont (l.take (rune l).2 ++ m) k = cont l k := fun k hk => by
  rw [cont_append (by rw [List.length_take]; omega), cont_take hk]
 obtain ⟨n, hnn⟩ : ∃ n, n = (rune l).2 := ⟨_, rfl⟩
 rw [← hnn] at hat hco hp ⊢
 have h0 := hat 0 (by omega)
 by_cases ha : at' l 0 < 128
 ·rw [rune_one ha, rune_one (by rw [h0]; exact ha), h0]
 ·have hr : rune l = if is2 l then (v2 l, 2) else if is3 l then (v3 l, 3) else if is4 l then (v4 l, 4) else (0xFFFD, 1) := by unfold rune; rw [if_neg ha]
  have hr' : rune (l.take n ++ m) = if is2 (l.take n ++ m) then (v2 (l.take n ++ m), 2) else if is3 (l.take n ++ m) then (v3 (l.take n ++ m), 3) else if is4 (l.take n ++ m) then (v4 (l.take n ++ m), 4) else (0xFFFD, 1) := by unfold rune; rw [if_neg (by rw [h0]; exact ha)]
  rw [hr] at hnn
  rw [hr, hr']
  cases h2 : is2 l with
  | true =>
   rw [h2] at hnn
   simp only [if_true] at hnn
   have e : is2 (l.take n ++ m) = true := by
    unfold is2 v2 at h2 ⊢
    rw [h0, hat 1 (by omega), hco 1 (by omega)]; exact h2
   have ev : v2 (l.take n ++ m) = v2 l := by unfold v2; rw [h0, hat 1 (by omega)]
   rw [e, ev]
   simp only [if_true]
  | false =>
   have n2 : 3 ≤ n → is2 (l.take n ++ m) = false := fun h => by
    unfold is2 v2 at h2 ⊢
    rw [h0, hat 1 (by omega), hco 1 (by omega)]; exact h2
   rw [h2] at hnn
   cases h3 : is3 l with
   | true =>
    rw [h3] at hnn
    simp only [if_true, Bool.false_eq_true, if_false] at hnn
    have e : is3 (l.take n ++ m) = true := by
     unfold is3 v3 at h3 ⊢
     rw [h0, hat 1 (by omega), hat 2 (by omega), hco 1 (by omega), hco 2 (by omega)]; exact h3
    have ev : v3 (l.take n ++ m) = v3 l := by unfold v3; rw [h0, hat 1 (by omega), hat 2 (by omega)]
    rw [n2 (by omega), e, ev]
    simp only [if_true, Bool.false_eq_true, if_false]
   | false =>
    rw [h3] at hnn
    cases h4 : is4 l with
    | true =>
     rw [h4] at hnn
     simp only [if_true, Bool.false_eq_true, if_false] at hnn
     have n3 : is3 (l.take n ++ m) = false := by
      unfold is3 v3 at h3 ⊢
      rw [h0, hat 1 (by omega), hat 2 (by omega), hco 1 (by omega), hco 2 (by omega)]; exact h3
     have e : is4 (l.take n ++ m) = true := by
      unfold is4 v4 at h4 ⊢
      rw [h0, hat 1 (by omega), hat 2 (by omega), hat 3 (by omega), hco 1 (by omega), hco 2 (by omega), hco 3 (by omega)]; exact h4
     have ev : v4 (l.take n ++ m) = v4 l := by unfold v4; rw [h0, hat 1 (by omega), hat 2 (by omega), hat 3 (by omega)]
     rw [n2 (by omega), n3, e, ev]
     simp only [if_true, Bool.false_eq_true, if_false]
    | false =>
     unfold bad at hb
     rw [decide_eq_true (show 128 ≤ at' l 0 by omega), h2, h3, h4] at hb
     cases hb
end Go.Sh
namespace Go.Sh
open Go
theorem scan_rune {l m : List UInt8} (hl : l ≠ []) (hb : bad l = false) (h0 : 128 ≤ at' l 0) : scanE false (l.take (rune l).2 ++ m) = (scanE false m).map (· + (rune l).2) := by
 have hr := rune_own (m := m) hl hb
 have hlen : (l.take (rune l).2).length = (rune l).2 := by rw [List.length_take]; have := rune_len hl; omega
 have hv : (rune l).1 ≠ 92 ∧ (rune l).1 ≠ 34 := by
  have := dec_dec l
  rw [dec_rune] at this
  revert this
  generalize hx : (rune l).1 = r, (rune l).2 = n
  intro h
  cases h <;> constructor <;> omega
 cases hx : l.take (rune l).2 ++ m with
 | nil =>
  have := congrArg List.length hx
  have hp := rune_pos l
  rw [List.length_append, hlen] at this
  simp at this
  omega
 | cons c t =>
  rw [hx] at hr
  rw [scanE.eq_def]
  simp only [hr, Bool.false_eq_true, if_false, if_neg hv.1, if_neg hv.2]
  rw [← hx, List.drop_append_of_le_length (by rw [hlen]; exact Nat.le_refl _), List.drop_of_length_le (by rw [hlen]; exact Nat.le_refl _), List.nil_append]
theorem scan_t {c : UInt8} {t : List UInt8} (hc : c.toNat < 128) : scanE true (c :: t) = (scanE false t).map (· + 1) := by rw [scan_one hc]; rfl
theorem scan_92 (t : List UInt8) : scanE false (92 :: t) = (scanE true t).map (· + 1) := by rw [scan_one (by decide)]; rfl
theorem scan_f {c : UInt8} {t : List UInt8} (hc : c.toNat < 128) (h1 : c ≠ 92) (h2 : c ≠ 34) : scanE false (c :: t) = (scanE false t).map (· + 1) := by
 rw [scan_one hc, if_neg (by decide), if_neg h1, if_neg h2]
theorem hexd_small : ∀ n : Fin 16, (hexd n.val).toNat < 128 ∧ hexd n.val ≠ 92 ∧ hexd n.val ≠ 34 := by decide
theorem scan_inside : ∀ (n : Nat) (b rest : List UInt8), b.length ≤ n → scanE false (inside b ++ 34 :: rest) = some ((inside b).length + 1)
 | n, [], rest, _ => by
  rw [inside, List.nil_append, scan_one (by decide)]
  simp
 | 0, c :: t, rest, h => by simp at h
 | n + 1, c :: t, rest, h => by
  have ht : t.length ≤ n := by simpa using h
  rw [inside]
  by_cases ho : odd (c :: t) = true
  ·rw [if_pos ho]
   have hc := UInt8.toNat_lt c
   obtain ⟨a1, a2, a3⟩ := hexd_small ⟨c.toNat / 16, by omega⟩
   obtain ⟨b1, b2, b3⟩ := hexd_small ⟨c.toNat % 16, by omega⟩
   simp only at a1 a2 a3 b1 b2 b3
   simp only [List.cons_append]
   rw [scan_92, scan_t (by decide), scan_f a1 a2 a3, scan_f b1 b2 b3, scan_inside n t rest ht]
   simp
  ·rw [if_neg ho]
   by_cases hq : c = 34 ∨ c = 92
   ·rw [if_pos hq]
    have hc : c.toNat < 128 := by rcases hq with rfl | rfl <;> decide
    simp only [List.cons_append]
    rw [scan_92, scan_t hc, scan_inside n t rest ht]
    simp
   ·rw [if_neg hq, List.append_assoc]
    have hp := rune_pos (c :: t)
    have hl := rune_len (l := c :: t) (by simp)
    have ih := scan_inside n ((c :: t).drop (rune (c :: t)).2) rest (by simp only [List.length_drop, List.length_cons]; omega)
    by_cases h0 : 128 ≤ at' (c :: t) 0
    ·have hb : bad (c :: t) = false := by
      cases hb : bad (c :: t) with
      | false => rfl
      | true => exact absurd (by unfold odd; rw [hb]; rfl) ho
     rw [scan_rune (by simp) hb h0, ih]
     simp only [Option.map_some, Option.some.injEq, List.length_append, List.length_take]
     omega
    ·have h1 : (rune (c :: t)).2 = 1 := by rw [rune_one (by omega)]
     rw [h1] at ih ⊢
     simp only [List.take_succ_cons, List.take_zero, List.drop_succ_cons, List.drop_zero, List.cons_append, List.nil_append] at ih ⊢
     rw [scan_f (by have : at' (c :: t) 0 = c.toNat := rfl; omega) (fun e => hq (.inr e)) (fun e => hq (.inl e)), ih]
     simp
theorem readG_cons (c : UInt8) (t : List UInt8) (hc : c ≠ 92) : readG (c :: t) = (readG t).map (c :: ·) := by
 rw [readG.eq_def]
 simp only [if_neg hc]
theorem readG_esc (x : UInt8) (t : List UInt8) (hx : x ≠ 120) : readG (92 :: x :: t) = (readG t).map (x :: ·) := by
 rw [readG.eq_def]
 simp [hx]
theorem readG_hex (a b : UInt8) (t : List UInt8) {h l : Nat} (ha : hexv a = some h) (hb : hexv b = some l) : readG (92 :: 120 :: a :: b :: t) = (readG t).map (UInt8.ofNat (16 * h + l) :: ·) := by
 rw [readG.eq_def]
 simp [ha, hb]
 omega
theorem readG_plain : ∀ (p m : List UInt8), (∀ c ∈ p, c ≠ 92) → readG (p ++ m) = (readG m).map fun q => p ++ q
 | [], m, _ => by cases h : readG m <;> simp [h]
 | c :: p, m, h => by
  rw [List.cons_append, readG_cons c _ (h c List.mem_cons_self), readG_plain p m fun d hd => h d (List.mem_cons_of_mem _ hd)]
  cases readG m <;> rfl
theorem readG_inside : ∀ (n : Nat) (b : List UInt8), b.length ≤ n → readG (inside b) = some b
 | n, [], _ => by rw [inside, readG]
 | 0, c :: t, h => by simp at h
 | n + 1, c :: t, h => by
  have ht : t.length ≤ n := by simpa using h
  rw [inside]
  by_cases ho : odd (c :: t) = true
  ·rw [if_pos ho]
   have hc := UInt8.toNat_lt c
   have e1 := hexv_hexd ⟨c.toNat / 16, by omega⟩
   have e2 := hexv_hexd ⟨c.toNat % 16, by omega⟩
   simp only at e1 e2
   rw [readG_hex _ _ _ e1 e2, readG_inside n t ht, Option.map_some, show 16 * (c.toNat / 16) + c.toNat % 16 = c.toNat by omega, UInt8.ofNat_toNat]
  ·rw [if_neg ho]
   by_cases hq : c = 34 ∨ c = 92
   ·rw [if_pos hq, readG_esc c _ (by rcases hq with rfl | rfl <;> decide), readG_inside n t ht]; rfl
   ·rw [if_neg hq]
    have hp := rune_pos (c :: t)
    rw [readG_plain, readG_inside n _ (by simp only [List.length_drop, List.length_cons]; omega), Option.map_some, List.take_append_drop]
    intro d hd
    obtain ⟨k, hk, e⟩ := at_mem hd
    by_cases h0 : 128 ≤ at' (c :: t) 0
    ·have hb : bad (c :: t) = false := by
      cases hb : bad (c :: t) with
      | false => rfl
      | true => exact absurd (by unfold odd; rw [hb]; rfl) ho
     have := rune_bytes hb hk h0
     rintro rfl
     simp at e
     omega
    ·have h1 : (rune (c :: t)).2 = 1 := by rw [rune_one (by omega)]
     have : k = 0 := by omega
     subst this
     have hd' : d = c := UInt8.toNat_inj.1 (by rw [e]; rfl)
     rw [hd']
     exact fun e => hq (.inr e)
end Go.Sh
namespace Go.Sh
open Go
def unqG (s : List UInt8) : Option (List UInt8 × List UInt8) := match s with
 | [] => none
 | c :: t => if c = 34 then (match scanE true (c :: t) with
  | some to => (match readG (((c :: t).take (to - 1)).drop 1) with
   | some b => if word b = (c :: t).take to then some (b, (c :: t).drop to) else none
   | none => none)
  | none => none) else none
theorem word_len (b : List UInt8) : (word b).length = (inside b).length + 2 := by simp [word]
theorem unqG_word (b rest : List UInt8) : unqG (word b ++ rest) = some (b, rest) := by
 have e : word b ++ rest = 34 :: (inside b ++ 34 :: rest) := by simp [word]
 have hs : scanE true (34 :: (inside b ++ 34 :: rest)) = some ((inside b).length + 2) := by
  rw [scan_t (by decide), scan_inside b.length b rest (Nat.le_refl _)]; rfl
 have hi : ((34 :: (inside b ++ 34 :: rest)).take ((inside b).length + 2 - 1)).drop 1 = inside b := by
  rw [show (inside b).length + 2 - 1 = (inside b).length + 1 by omega, List.take_succ_cons, List.drop_succ_cons, List.drop_zero, List.take_left' rfl]
 have ht : (34 :: (inside b ++ 34 :: rest)).take ((inside b).length + 2) = word b := by
  rw [← e, ← word_len, List.take_left' rfl]
 have hd : (34 :: (inside b ++ 34 :: rest)).drop ((inside b).length + 2) = rest := by
  rw [← e, ← word_len, List.drop_left' rfl]
 rw [e, unqG]
 simp only [if_true, hs, hi, readG_inside b.length b (Nat.le_refl _), ht, hd]
theorem unqR_word (b rest : List UInt8) : unqR (word b ++ rest) = some (b, rest) := by
 have e : word b ++ rest = 34 :: (inside b ++ 34 :: rest) := by simp [word]
 have ht : (34 :: (inside b ++ 34 :: rest)).take ((34 :: (inside b ++ 34 :: rest)).length - rest.length) = word b := by
  rw [← e, List.length_append, Nat.add_sub_cancel, List.take_left' rfl]
 rw [e, unqR]
 simp only [if_true, readW_inside b.length b rest (Nat.le_refl _), ht]
theorem unqG_some {s b rest : List UInt8} (h : unqG s = some (b, rest)) : s = word b ++ rest := by
 unfold unqG at h
 cases s with
 | nil => cases h
 | cons c t =>
  simp only at h
  split at h
  ·split at h
   ·split at h
    ·split at h
     ·rename_i hw
      simp only [Option.some.injEq, Prod.mk.injEq] at h
      obtain ⟨rfl, rfl⟩ := h
      rw [hw, List.take_append_drop]
     ·cases h
    ·cases h
   ·cases h
  ·cases h
theorem readW_tail : ∀ (n : Nat) (t b rest : List UInt8), t.length ≤ n → readW t = some (b, rest) → ∃ p, t = p ++ rest
 | _, [], b, rest, _, h => by rw [readW] at h; cases h
 | 0, c :: t, b, rest, hn, h => by simp at hn
 | n + 1, c :: t, b, rest, hn, h => by
  have ht : t.length ≤ n := by simpa using hn
  rw [readW_cons] at h
  split at h
  ·simp only [Option.some.injEq, Prod.mk.injEq] at h
   exact ⟨[c], by rw [h.2]; rfl⟩
  ·split at h
   ·cases t with
    | nil => cases h
    | cons x t1 =>
     simp only at h
     split at h
     ·match t1, h, ht with
      | a :: d :: t2, h, ht =>
       simp only at h
       split at h
       ·obtain ⟨q, hq, e⟩ := Option.map_eq_some_iff.1 h
        obtain ⟨q1, q2⟩ := q
        simp only [Prod.mk.injEq] at e
        obtain ⟨p, hp⟩ := readW_tail n t2 q1 q2 (by simp at ht; omega) hq
        exact ⟨c :: x :: a :: d :: p, by rw [← e.2, hp]; rfl⟩
       ·cases h
      | [a], h, _ => cases h
      | [], h, _ => cases h
     ·obtain ⟨q, hq, e⟩ := Option.map_eq_some_iff.1 h
      obtain ⟨q1, q2⟩ := q
      simp only [Prod.mk.injEq] at e
      obtain ⟨p, hp⟩ := readW_tail n t1 q1 q2 (by simp at ht; omega) hq
      exact ⟨c :: x :: p, by rw [← e.2, hp]; rfl⟩
   ·obtain ⟨q, hq, e⟩ := Option.map_eq_some_iff.1 h
    obtain ⟨q1, q2⟩ := q
    simp only [Prod.mk.injEq] at e
    obtain ⟨p, hp⟩ := readW_tail n t q1 q2 ht hq
    exact ⟨c :: p, by rw [← e.2, hp]; rfl⟩
theorem unqR_some {s b rest : List UInt8} (h : unqR s = some (b, rest)) : s = word b ++ rest := by
 unfold unqR at h
 cases s with
 | nil => cases h
 | cons c t =>
  simp only at h
  split at h
  ·split at h
   ·rename_i b1 r1 hr
    split at h
    ·rename_i hw
     simp only [Option.some.injEq, Prod.mk.injEq] at h
     obtain ⟨rfl, rfl⟩ := h
     obtain ⟨p, hp⟩ := readW_tail t.length t b1 r1 (Nat.le_refl _) hr
     have e : c :: t = (c :: p) ++ r1 := by rw [hp]; rfl
     rw [e, List.length_append, Nat.add_sub_cancel, List.take_left' rfl] at hw
     rw [e, hw]
    ·cases h
   ·cases h
  ·cases h
theorem unq_one (s : List UInt8) : unqG s = unqR s := by
 cases hg : unqG s with
 | some p =>
  obtain ⟨b, rest⟩ := p
  rw [unqG_some hg, unqR_word]
 | none =>
  cases hr : unqR s with
  | none => rfl
  | some p =>
   obtain ⟨b, rest⟩ := p
   rw [unqR_some hr, unqG_word] at hg
   cases hg
end Go.Sh
namespace Go.Sh
open Go
theorem bad_iff (l : List UInt8) : bad l = true ↔ (rune l).1 = 0xFFFD ∧ (rune l).2 = 1 := by
 unfold bad rune
 by_cases h : at' l 0 < 128
 ·rw [if_pos h, decide_eq_false (show ¬ 128 ≤ at' l 0 by omega)]
  constructor
  ·intro h; cases h
  ·intro ⟨a, _⟩; simp only at a; omega
 ·rw [if_neg h, decide_eq_true (show 128 ≤ at' l 0 by omega)]
  cases h2 : is2 l with
  | true => simp
  | false =>
   cases h3 : is3 l with
   | true => simp
   | false =>
    cases h4 : is4 l with
    | true => simp
    | false => simp
def whole : List UInt8 → Bool
 | [] => true
 | c :: t => if (rune (c :: t)).1 = 0xFFFD ∧ (rune (c :: t)).2 = 1 then false else whole ((c :: t).drop (rune (c :: t)).2)
termination_by l => l.length
decreasing_by
 have := rune_pos (c :: t)
 simp only [List.length_drop, List.length_cons]
 omega
theorem whole_own {l : List UInt8} (hl : l ≠ []) : whole (l.take (rune l).2) = !bad l := by
 have hp := rune_pos l
 have hn := rune_len hl
 cases hb : bad l with
 | true =>
  have h := (bad_iff l).1 hb
  rw [h.2]
  cases l with
  | nil => exact absurd rfl hl
  | cons c t =>
   have h0 : 128 ≤ at' (c :: t) 0 := by
    unfold bad at hb
    cases hd : decide (128 ≤ at' (c :: t) 0) with
    | true => exact of_decide_eq_true hd
    | false => rw [hd] at hb; cases hb
   have h0' : at' [c] 0 = at' (c :: t) 0 := rfl
   have hc : ∀ k, cont [c] (k + 1) = false := fun k => by
    unfold cont
    rw [decide_eq_false (show ¬ k + 1 < [c].length by simp)]; rfl
   have hr : rune [c] = (0xFFFD, 1) := by
    unfold rune
    rw [if_neg (by omega)]
    have n2 : is2 [c] = false := by unfold is2; rw [hc 0]; simp
    have n3 : is3 [c] = false := by unfold is3; rw [hc 0]; simp
    have n4 : is4 [c] = false := by unfold is4; rw [hc 0]; simp
    rw [n2, n3, n4]; rfl
   show whole [c] = _
   rw [whole, hr]; rfl
 | false =>
  have h : ¬ ((rune l).1 = 0xFFFD ∧ (rune l).2 = 1) := fun h => by rw [(bad_iff l).2 h] at hb; cases hb
  have ho := rune_own (m := []) hl hb
  rw [List.append_nil] at ho
  cases hx : l.take (rune l).2 with
  | nil =>
   have := congrArg List.length hx
   rw [List.length_take] at this
   have h9 : min (rune l).2 l.length = 0 := this
   omega
  | cons c t =>
   rw [hx] at ho
   rw [whole, ho, if_neg h, ← hx, List.drop_of_length_le (by rw [List.length_take]; omega), whole]; rfl
theorem encode_rune {l : List UInt8} (hl : l ≠ []) (hb : bad l = false) : (Utf8.encode (((rune l).1 : Nat) : Int)).data.toList = l.take (rune l).2 := by
 have := dec_dec l
 rw [dec_rune] at this
 exact encode_dec hl this fun h => by rw [(bad_iff l).2 h] at hb; cases hb
def quoteG : List UInt8 → List UInt8
 | [] => []
 | c :: t =>
  (if (rune (c :: t)).1 < 32 ∨ (rune (c :: t)).1 = 127 ∨ whole ((c :: t).take (rune (c :: t)).2) = false then [92, 120, hexd (c.toNat / 16), hexd (c.toNat % 16)]
   else if (rune (c :: t)).1 = 34 ∨ (rune (c :: t)).1 = 92 then 92 :: (Utf8.encode (((rune (c :: t)).1 : Nat) : Int)).data.toList
   else (Utf8.encode (((rune (c :: t)).1 : Nat) : Int)).data.toList) ++ quoteG ((c :: t).drop (rune (c :: t)).2)
termination_by l => l.length
decreasing_by
 have := rune_pos (c :: t)
 simp only [List.length_drop, List.length_cons]
 omega
theorem rune_small {c : UInt8} {t : List UInt8} (h : (rune (c :: t)).1 < 128) : c.toNat = (rune (c :: t)).1 ∧ (rune (c :: t)).2 = 1 := by
 have := dec_dec (c :: t)
 rw [dec_rune] at this
 revert h this
 generalize (rune (c :: t)).1 = r, (rune (c :: t)).2 = n
 intro h d
 cases d with
 | one _ => exact ⟨rfl, rfl⟩
 | two _ _ _ hc => omega
 | three _ _ _ _ hc _ => omega
 | four _ _ _ _ _ hc _ => omega
 | bad _ => omega
theorem quoteG_eq : ∀ (n : Nat) (l : List UInt8), l.length ≤ n → quoteG l = inside l
 | _, [], _ => by rw [quoteG, inside]
 | 0, c :: t, h => by simp at h
 | n + 1, c :: t, h => by
  have ht : t.length ≤ n := by simpa using h
  have hp := rune_pos (c :: t)
  have ih : quoteG ((c :: t).drop (rune (c :: t)).2) = inside ((c :: t).drop (rune (c :: t)).2) := quoteG_eq n _ (by simp only [List.length_drop, List.length_cons]; omega)
  rw [quoteG, inside, ih, whole_own (by simp)]
  by_cases ho : odd (c :: t) = true
  ·have hn1 : (rune (c :: t)).2 = 1 := by
    unfold odd at ho
    simp only [Bool.or_eq_true, decide_eq_true_eq] at ho
    rcases ho with (hb | hs) | hs
    ·exact ((bad_iff _).1 hb).2
    ·exact (rune_small (by omega)).2
    ·exact (rune_small (by omega)).2
   rw [if_pos ho, if_pos (by
    unfold odd at ho
    simp only [Bool.or_eq_true, decide_eq_true_eq] at ho
    rcases ho with (hb | hs) | hs
    ·exact .inr (.inr (by rw [hb]; rfl))
    ·exact .inl hs
    ·exact .inr (.inl hs)), hn1]
   rfl
  ·have ho' := ho
   unfold odd at ho
   simp only [Bool.or_eq_true, decide_eq_true_eq, not_or, Bool.not_eq_true] at ho
   obtain ⟨⟨hb, h1⟩, h2⟩ := ho
   rw [if_neg ho', if_neg (by rw [hb]; simp; omega), encode_rune (by simp) hb]
   by_cases hq : (rune (c :: t)).1 = 34 ∨ (rune (c :: t)).1 = 92
   ·obtain ⟨e1, e2⟩ := rune_small (c := c) (t := t) (by omega)
    have hc : c = 34 ∨ c = 92 := by
     rcases hq with q | q
     ·exact .inl (UInt8.toNat_inj.1 (by rw [e1, q]; rfl))
     ·exact .inr (UInt8.toNat_inj.1 (by rw [e1, q]; rfl))
    rw [if_pos hq, if_pos hc, e2]; rfl
   ·have hc : ¬ (c = 34 ∨ c = 92) := by
     rintro (rfl | rfl)
     ·exact hq (.inl (by rw [rune_one (show at' (34 :: t) 0 < 128 from (by decide : (34 : UInt8).toNat < 128))]; rfl))
     ·exact hq (.inr (by rw [rune_one (show at' (92 :: t) 0 < 128 from (by decide : (92 : UInt8).toNat < 128))]; rfl))
    rw [if_neg hq, if_neg hc]
end Go.Sh
namespace Go.Sh
open Go
end Go.Sh
namespace Go.Sh
open Go
def firstN (c : Nat) : Nat := if c < 128 then 240 else if c < 194 then 241 else if c < 224 then 2 else if c = 224 then 19 else if c < 237 then 3 else if c = 237 then 35 else if c < 240 then 3 else if c = 240 then 52 else if c < 244 then 4 else if c = 244 then 68 else 241
def accLo (i : Nat) : Nat := if i = 1 then 160 else if i = 3 then 144 else 128
def accHi (i : Nat) : Nat := if i = 2 then 159 else if i = 4 then 143 else 191
def tailB (n : Nat) : Bool := decide (n < 128) || decide (191 < n)
def slowR (l : List UInt8) (x : Nat) : Nat × Nat :=
 if l.length < x % 8 then (65533, 1) else if (decide (at' l 1 < accLo (x / 16)) || decide (accHi (x / 16) < at' l 1)) then (65533, 1)
 else if x % 8 ≤ 2 then (at' l 0 % 32 * 64 + at' l 1 % 64, 2) else if tailB (at' l 2) then (65533, 1)
 else if x % 8 ≤ 3 then (at' l 0 % 16 * 4096 + at' l 1 % 64 * 64 + at' l 2 % 64, 3) else if tailB (at' l 3) then (65533, 1)
 else (at' l 0 % 8 * 262144 + at' l 1 % 64 * 4096 + at' l 2 % 64 * 64 + at' l 3 % 64, 4)
theorem rune_high {l : List UInt8} (h : 128 ≤ at' l 0) : rune l = if is2 l then (v2 l, 2) else if is3 l then (v3 l, 3) else if is4 l then (v4 l, 4) else (0xFFFD, 1) := by
 unfold rune
 rw [if_neg (by omega)]
theorem rune_bad {l : List UInt8} (h : 128 ≤ at' l 0) (hx : at' l 0 < 194 ∨ 244 < at' l 0) : rune l = (65533, 1) := by
 have b1 := at_lt l 1; have b2 := at_lt l 2; have b3 := at_lt l 3; have b0 := at_lt l 0
 have h2 : is2 l = false := by
  unfold is2 v2
  cases hc : cont l 1 <;> simp
  have := cont_val hc
  omega
 have h3 : is3 l = false := by
  unfold is3 v3
  cases hc : cont l 1 <;> cases hd : cont l 2 <;> simp
  omega
 have h4 : is4 l = false := by
  unfold is4 v4
  cases hc : cont l 1 <;> cases hd : cont l 2 <;> cases he : cont l 3 <;> simp
  have := cont_val hc; have := cont_val hd; have := cont_val he
  omega
 rw [rune_high h, h2, h3, h4]
 rfl
theorem cont_eq (l : List UInt8) (k : Nat) : cont l k = (decide (k < l.length) && !tailB (at' l k)) := by
 unfold cont tailB
 have := at_lt l k
 by_cases hk : k < l.length
 ·simp only [hk, decide_true, Bool.true_and]
  by_cases h1 : at' l k < 128
  ·simp [h1]; omega
  ·by_cases h2 : 191 < at' l k
   ·simp [h1, h2]; omega
   ·simp [h1, h2]; omega
 ·simp [hk]
theorem firstN_ge {c : Nat} (h : firstN c < 240) : 194 ≤ c ∧ c ≤ 244 := by
 unfold firstN at h
 (repeat' split at h) <;> omega
theorem firstN_bad {c : Nat} (h1 : 128 ≤ c) (h : ¬ firstN c < 240) : firstN c = 241 ∧ (c < 194 ∨ 244 < c) := by
 unfold firstN at h ⊢
 (repeat' split at h) <;> (repeat' split) <;> omega
theorem tail_no {n : Nat} (h : tailB n = false) : 128 ≤ n ∧ n ≤ 191 ∧ n % 64 = n - 128 := by
 unfold tailB at h
 simp only [Bool.or_eq_false_iff, decide_eq_false_iff_not] at h
 omega
theorem tail_yes {n : Nat} (h : tailB n = true) : n < 128 ∨ 191 < n := by
 unfold tailB at h
 simpa using h
theorem slow2 {l : List UInt8} (hc : 194 ≤ at' l 0 ∧ at' l 0 < 224) : slowR l 2 = rune l := by
 have b1 := at_lt l 1
 rw [rune_high (by omega)]
 have e3 : is3 l = false := by unfold is3; rw [decide_eq_false (by omega)]; rfl
 have e4 : is4 l = false := by unfold is4; rw [decide_eq_false (by omega)]; rfl
 rw [e3, e4]
 unfold slowR is2 v2
 rw [cont_eq]
 simp only [Nat.reduceMod, Nat.reduceDiv, accLo, accHi, reduceIte, show ¬ (0 = 1) by decide, show ¬ (0 = 2) by decide, show ¬ (0 = 3) by decide, show ¬ (0 = 4) by decide]
 cases ht : tailB (at' l 1) with
 | true =>
  have := tail_yes ht
  by_cases hL : l.length < 2
  ·simp [hL]
  ·have e9 : (decide (at' l 1 < 128) || decide (191 < at' l 1)) = true := by simpa using this
   simp [hL, e9]
 | false =>
  obtain ⟨h1, h2, h3⟩ := tail_no ht
  have e9 : (decide (at' l 1 < 128) || decide (191 < at' l 1)) = false := by simp; omega
  by_cases hL : l.length < 2
  ·simp [hL, show ¬ 1 < l.length by omega]
  ·rw [if_neg hL, e9, if_neg (by simp), if_pos (Nat.le_refl 2), if_pos (by simp; omega), h3]
   exact congrArg (fun n => (n, 2)) (by omega)
theorem slow3 {l : List UInt8} {lo hi x : Nat} (hc : 224 ≤ at' l 0 ∧ at' l 0 < 240) (hx : x % 8 = 3) (hlo : accLo (x / 16) = lo) (hhi : accHi (x / 16) = hi)
  (hl : ∀ c y z : Nat, c = at' l 0 - 224 → y < 64 → z < 64 → ((lo ≤ y + 128 ∧ y + 128 ≤ hi) ↔ (2048 ≤ c * 4096 + y * 64 + z ∧ (c * 4096 + y * 64 + z < 0xD800 ∨ 0xE000 ≤ c * 4096 + y * 64 + z)))) (h9 : 128 ≤ lo ∧ hi ≤ 191) : slowR l x = rune l := by
 have b1 := at_lt l 1; have b2 := at_lt l 2
 rw [rune_high (by omega)]
 have e3 : is2 l = false := by unfold is2; rw [decide_eq_false (show ¬ at' l 0 < 224 by omega)]; simp
 have e4 : is4 l = false := by unfold is4; rw [decide_eq_false (by omega)]; rfl
 rw [e3, e4]
 unfold slowR is3 v3
 rw [cont_eq, cont_eq, hx, hlo, hhi, decide_eq_true hc.1, decide_eq_true hc.2]
 by_cases hL : l.length < 3
 ·rw [if_pos hL]
  simp
  intros; omega
 ·rw [if_neg hL, decide_eq_true (show 1 < l.length by omega), decide_eq_true (show 2 < l.length by omega), if_neg (show ¬ 3 ≤ 2 by decide), if_pos (Nat.le_refl 3)]
  cases hy : tailB (at' l 1) with
  | true =>
   have := tail_yes hy
   rw [if_pos (by simp; omega)]
   simp
  | false =>
   obtain ⟨y1, y2, y3⟩ := tail_no hy
   cases hz : tailB (at' l 2) with
   | true => simp
   | false =>
    obtain ⟨z1, z2, z3⟩ := tail_no hz
    have key := hl (at' l 0 - 224) (at' l 1 - 128) (at' l 2 - 128) rfl (by omega) (by omega)
    rw [show at' l 1 - 128 + 128 = at' l 1 by omega] at key
    by_cases hr : lo ≤ at' l 1 ∧ at' l 1 ≤ hi
    ·have hk := key.1 hr
     rw [if_neg (by simp; omega)]
     simp only [Bool.true_and, Bool.not_false, Bool.and_eq_true, Bool.or_eq_true, decide_eq_true_eq, reduceIte, Bool.false_eq_true]
     rw [if_pos (by omega), y3, z3]
     exact congrArg (fun n => (n, 3)) (by omega)
    ·have hk := fun h => hr (key.2 h)
     rw [if_pos (by simp; omega)]
     simp only [Bool.true_and, Bool.not_false, Bool.and_eq_true, Bool.or_eq_true, decide_eq_true_eq, reduceIte, Bool.false_eq_true]
     rw [if_neg hk]
theorem slow4 {l : List UInt8} {lo hi x : Nat} (hc : 240 ≤ at' l 0 ∧ at' l 0 < 245) (hx : x % 8 = 4) (hlo : accLo (x / 16) = lo) (hhi : accHi (x / 16) = hi)
  (hl : ∀ c y z w : Nat, c = at' l 0 - 240 → y < 64 → z < 64 → w < 64 → ((lo ≤ y + 128 ∧ y + 128 ≤ hi) ↔ (65536 ≤ c * 262144 + y * 4096 + z * 64 + w ∧ c * 262144 + y * 4096 + z * 64 + w ≤ 0x10FFFF))) (h9 : 128 ≤ lo ∧ hi ≤ 191) : slowR l x = rune l := by
 have b1 := at_lt l 1; have b2 := at_lt l 2; have b3 := at_lt l 3
 rw [rune_high (by omega)]
 have e3 : is2 l = false := by unfold is2; rw [decide_eq_false (show ¬ at' l 0 < 224 by omega)]; simp
 have e4 : is3 l = false := by unfold is3; rw [decide_eq_false (show ¬ at' l 0 < 240 by omega)]; simp
 rw [e3, e4]
 unfold slowR is4 v4
 rw [cont_eq, cont_eq, cont_eq, hx, hlo, hhi, decide_eq_true hc.1, decide_eq_true (show at' l 0 < 248 by omega)]
 by_cases hL : l.length < 4
 ·rw [if_pos hL]
  simp
  intros; omega
 ·rw [if_neg hL, decide_eq_true (show 1 < l.length by omega), decide_eq_true (show 2 < l.length by omega), decide_eq_true (show 3 < l.length by omega), if_neg (show ¬ 4 ≤ 2 by decide), if_neg (show ¬ 4 ≤ 3 by decide)]
  cases hy : tailB (at' l 1) with
  | true =>
   have := tail_yes hy
   rw [if_pos (by simp; omega)]
   simp
  | false =>
   obtain ⟨y1, y2, y3⟩ := tail_no hy
   cases hz : tailB (at' l 2) with
   | true => simp
   | false =>
    obtain ⟨z1, z2, z3⟩ := tail_no hz
    cases hw : tailB (at' l 3) with
    | true => simp
    | false =>
     obtain ⟨w1, w2, w3⟩ := tail_no hw
     have key := hl (at' l 0 - 240) (at' l 1 - 128) (at' l 2 - 128) (at' l 3 - 128) rfl (by omega) (by omega) (by omega)
     rw [show at' l 1 - 128 + 128 = at' l 1 by omega] at key
     by_cases hr : lo ≤ at' l 1 ∧ at' l 1 ≤ hi
     ·have hk := key.1 hr
      rw [if_neg (by simp; omega)]
      simp only [Bool.true_and, Bool.not_false, Bool.and_eq_true, decide_eq_true_eq, reduceIte, Bool.false_eq_true]
      rw [if_pos hk, y3, z3, w3]
      exact congrArg (fun n => (n, 4)) (by omega)
     ·have hk := fun h => hr (key.2 h)
      rw [if_pos (by simp; omega)]
      simp only [Bool.true_and, Bool.not_false, Bool.and_eq_true, decide_eq_true_eq, reduceIte, Bool.false_eq_true]
      rw [if_neg hk]
theorem slow_all {l : List UInt8} (h : firstN (at' l 0) < 240) : slowR l (firstN (at' l 0)) = rune l := by
 have hc := firstN_ge h
 have cases : (at' l 0 < 224 ∧ firstN (at' l 0) = 2) ∨ (at' l 0 = 224 ∧ firstN (at' l 0) = 19) ∨ (224 < at' l 0 ∧ at' l 0 < 240 ∧ at' l 0 ≠ 237 ∧ firstN (at' l 0) = 3) ∨ (at' l 0 = 237 ∧ firstN (at' l 0) = 35) ∨ (at' l 0 = 240 ∧ firstN (at' l 0) = 52) ∨ (240 < at' l 0 ∧ at' l 0 < 244 ∧ firstN (at' l 0) = 4) ∨ (at' l 0 = 244 ∧ firstN (at' l 0) = 68) := by
  generalize at' l 0 = c at *
  unfold firstN
  (repeat' split) <;> omega
 rcases cases with ⟨h1, e⟩ | ⟨h1, e⟩ | ⟨h1, h2, h3, e⟩ | ⟨h1, e⟩ | ⟨h1, e⟩ | ⟨h1, h2, e⟩ | ⟨h1, e⟩ <;> rw [e]
 ·exact slow2 ⟨hc.1, h1⟩
 ·exact slow3 (lo := 160) (hi := 191) (by omega) rfl rfl rfl (fun c y z _ _ _ => by omega) (by decide)
 ·exact slow3 (lo := 128) (hi := 191) (by omega) rfl rfl rfl (fun c y z _ _ _ => by omega) (by decide)
 ·exact slow3 (lo := 128) (hi := 159) (by omega) rfl rfl rfl (fun c y z _ _ _ => by omega) (by decide)
 ·exact slow4 (lo := 144) (hi := 191) (by omega) rfl rfl rfl (fun c y z w _ _ _ _ => by omega) (by decide)
 ·exact slow4 (lo := 128) (hi := 191) (by omega) rfl rfl rfl (fun c y z w _ _ _ _ => by omega) (by decide)
 ·exact slow4 (lo := 128) (hi := 143) (by omega) rfl rfl rfl (fun c y z w _ _ _ _ => by omega) (by decide)
theorem rune_valid {l : List UInt8} (h : bad l = false) : Utf8.valid (((rune l).1 : Nat) : Int) = true := by
 rw [valid_nat]
 have b1 := at_lt l 1
 unfold bad at h
 unfold rune
 by_cases h0 : at' l 0 < 128
 ·rw [if_pos h0]
  left
  show at' l 0 < _
  omega
 rw [if_neg h0]
 cases h2 : is2 l with
 | true =>
  rw [if_pos rfl]
  unfold is2 at h2
  simp only [Bool.and_eq_true, decide_eq_true_eq] at h2
  have := cont_val h2.1.2
  left
  show v2 l < _
  unfold v2
  omega
 | false =>
  rw [if_neg (by simp)]
  cases h3 : is3 l with
  | true =>
   rw [if_pos rfl]
   unfold is3 at h3
   simp only [Bool.and_eq_true, Bool.or_eq_true, decide_eq_true_eq] at h3
   have e1 := cont_val h3.1.1.1.2
   have e2 := cont_val h3.1.1.2
   show v3 l < _ ∨ _ ≤ v3 l ∧ v3 l ≤ _
   unfold v3 at *
   omega
  | false =>
   rw [if_neg (by simp)]
   cases h4 : is4 l with
   | true =>
    rw [if_pos rfl]
    unfold is4 at h4
    simp only [Bool.and_eq_true, decide_eq_true_eq] at h4
    right
    show _ ≤ v4 l ∧ v4 l ≤ _
    omega
   | false =>
    rw [h2, h3, h4, decide_eq_true (by omega)] at h
    cases h
end Go.Sh
namespace Go.Sh
open Go
theorem scanE_nil (m : Bool) : scanE m [] = none := by unfold scanE; rfl
theorem scanE_cons (m : Bool) (c : UInt8) (t : List UInt8) : scanE m (c :: t) = if m then (scanE false ((c :: t).drop (rune (c :: t)).2)).map (· + (rune (c :: t)).2)
  else if (rune (c :: t)).1 = 92 then (scanE true ((c :: t).drop (rune (c :: t)).2)).map (· + (rune (c :: t)).2)
  else if (rune (c :: t)).1 = 34 then some 1
  else (scanE false ((c :: t).drop (rune (c :: t)).2)).map (· + (rune (c :: t)).2) := by
 rw [scanE]
theorem scanE_bounds : ∀ (n : Nat) (m : Bool) (l : List UInt8) (k : Nat), l.length ≤ n → scanE m l = some k → 1 ≤ k ∧ k ≤ l.length
 | _, _, [], _, _, h => by rw [scanE_nil] at h; cases h
 | 0, _, c :: t, _, hl, _ => by simp at hl
 | n + 1, m, c :: t, k, hl, h => by
  have hp := rune_pos (c :: t)
  have hle := rune_len (l := c :: t) (by simp)
  have step : ∀ m', (scanE m' ((c :: t).drop (rune (c :: t)).2)).map (· + (rune (c :: t)).2) = some k → 1 ≤ k ∧ k ≤ (c :: t).length := fun m' h' => by
   obtain ⟨j, hj, rfl⟩ := Option.map_eq_some_iff.1 h'
   have := scanE_bounds n m' _ j (by rw [List.length_drop]; omega) hj
   rw [List.length_drop] at this
   omega
  rw [scanE_cons] at h
  split at h
  ·exact step _ h
  ·split at h
   ·exact step _ h
   ·split at h
    ·obtain rfl := Option.some.inj h
     simp
    ·exact step _ h
theorem scanE_two {l : List UInt8} {k : Nat} (h : scanE true l = some k) : 2 ≤ k ∧ k ≤ l.length := by
 have hb := scanE_bounds _ _ _ _ (Nat.le_refl _) h
 refine ⟨?_, hb.2⟩
 cases l with
 | nil => rw [scanE_nil] at h; cases h
 | cons c t =>
  rw [scanE_cons, if_pos rfl] at h
  obtain ⟨j, hj, rfl⟩ := Option.map_eq_some_iff.1 h
  have := scanE_bounds _ _ _ _ (Nat.le_refl _) hj
  have := rune_pos (c :: t)
  omega
theorem readG_nil : readG [] = some [] := by unfold readG; rfl
theorem readG_short (x : UInt8) (t : List UInt8) (h : ¬ (x = 120 ∧ 2 ≤ t.length)) : readG (92 :: x :: t) = (readG t).map (x :: ·) := by
 rw [readG]
 simp only [if_true]
 by_cases hx : x = 120
 ·rw [if_pos hx]
  match t with
  | [] => simp
  | [a] => simp
  | a :: b :: t2 => exact absurd ⟨hx, by simp⟩ h
 ·rw [if_neg hx]
  simp
theorem readG_bad (a b : UInt8) (t : List UInt8) (h : hexv a = none ∨ hexv b = none) : readG (92 :: 120 :: a :: b :: t) = none := by
 rw [readG]
 simp only [if_true]
 cases ha : hexv a with
 | none => simp
 | some u =>
  rcases h with h | h
  ·rw [ha] at h; cases h
  ·rw [h]; simp
theorem readG_back : readG [92] = some [92] := by
 rw [readG]
 simp [readG_nil]
end Go.Sh
namespace Go.Sh
open Go
def accR (l : List UInt8) (r : Nat) : Nat → Nat
 | 0 => r
 | k + 1 => 64 * accR l r k + at' l (k + 1) - 128
theorem accR_zero (l : List UInt8) (r : Nat) : accR l r 0 = r := rfl
theorem accR_succ (l : List UInt8) (r k : Nat) : accR l r (k + 1) = 64 * accR l r k + at' l (k + 1) - 128 := rfl
def okB' (l : List UInt8) (i : Nat) : Bool := !(decide (at' l i < 0x80) || decide (at' l i > 0xbf))
def refTail (l : List UInt8) (p : Nat × Nat × Nat) : Nat × Nat × Bool :=
 if p.1 = 0 ∨ l.length < p.1 then (0xfffd, 1, true) else if (List.range (p.1 - 1)).all (fun i => okB' l (i + 1)) then
  if accR l p.2.2 (p.1 - 1) < p.2.1 ∨ accR l p.2.2 (p.1 - 1) > 0x10ffff ∨ (accR l p.2.2 (p.1 - 1) ≥ 0xd800 ∧ accR l p.2.2 (p.1 - 1) < 0xe000) then (0xfffd, 1, true) else (accR l p.2.2 (p.1 - 1), p.1, false)
 else (0xfffd, 1, true)
def headP (c : Nat) : Nat × Nat × Nat := if 0xc0 ≤ c ∧ c < 0xe0 then (2, 0x80, c - 0xc0) else if 0xe0 ≤ c ∧ c < 0xf0 then (3, 0x800, c - 0xe0) else if 0xf0 ≤ c ∧ c < 0xf8 then (4, 0x10000, c - 0xf0) else (0, 0, 0)
set_option maxRecDepth 10000 in
theorem refRune_tail {l : List UInt8} (h : ¬ at' l 0 < 128) : refRune l = refTail l (headP (at' l 0)) := by
 unfold refRune refTail headP
 simp only [if_neg h]
 split
 ·rfl
 ·split
  ·rfl
  ·split
   ·rfl
   ·rfl
theorem odd_one {c : UInt8} {t : List UInt8} (h : odd (c :: t) = true) : (rune (c :: t)).2 = 1 := by
 unfold odd at h
 simp only [Bool.or_eq_true, decide_eq_true_eq] at h
 rcases h with (h | h) | h
 ·exact ((bad_iff _).1 h).2
 ·exact (rune_small (by omega)).2
 ·exact (rune_small (by omega)).2
theorem inside_step (c : UInt8) (t : List UInt8) : inside (c :: t) = (if odd (c :: t) then [92, 120, hexd (c.toNat / 16), hexd (c.toNat % 16)] else if (rune (c :: t)).1 = 34 ∨ (rune (c :: t)).1 = 92 then [92, c]
  else (c :: t).take (rune (c :: t)).2) ++ inside ((c :: t).drop (rune (c :: t)).2) := by
 rw [inside]
 cases ho : odd (c :: t) with
 | true =>
  rw [odd_one ho]
  rfl
 | false =>
  simp only [Bool.false_eq_true, if_false]
  have key : (c = 34 ∨ c = 92) ↔ ((rune (c :: t)).1 = 34 ∨ (rune (c :: t)).1 = 92) := by
   constructor
   ·intro h
    have h0 : at' (c :: t) 0 = c.toNat := rfl
    have : c.toNat = 34 ∨ c.toNat = 92 := by rcases h with rfl | rfl <;> simp
    rw [rune_one (by omega)]
    exact this
   ·intro h
    have := (rune_small (c := c) (t := t) (by omega)).1
    rcases h with h | h
    ·left; apply UInt8.toNat_inj.1; rw [this, h]; rfl
    ·right; apply UInt8.toNat_inj.1; rw [this, h]; rfl
  by_cases hc : c = 34 ∨ c = 92
  ·have hr := key.1 hc
   rw [if_pos hc, if_pos hr, (rune_small (c := c) (t := t) (by omega)).2]
   rfl
  ·rw [if_neg hc, if_neg fun h => hc (key.2 h)]
theorem inside_nil : inside [] = [] := by rw [inside]
theorem readW_nil : readW [] = none := by rw [readW]
theorem readW_end (t : List UInt8) : readW (34 :: t) = some ([], t) := by rw [readW_cons]; rfl
theorem readW_one {c : UInt8} (t : List UInt8) (h1 : c ≠ 34) (h2 : c ≠ 92) : readW (c :: t) = (readW t).map fun p => (c :: p.1, p.2) := by rw [readW_cons, if_neg h1, if_neg h2]
theorem readW_stop : readW [92] = none := by rw [readW_cons]; rfl
theorem readW_esc {x : UInt8} (t : List UInt8) (h : x ≠ 120) : readW (92 :: x :: t) = (readW t).map fun p => (x :: p.1, p.2) := by
 rw [readW_cons, if_neg (by decide), if_pos rfl]
 simp only [if_neg h]
theorem readW_hex {a b : UInt8} (t : List UInt8) {u v : Nat} (ha : hexv a = some u) (hb : hexv b = some v) : readW (92 :: 120 :: a :: b :: t) = (readW t).map fun p => (UInt8.ofNat (16 * u + v) :: p.1, p.2) := by
 rw [readW_cons, if_neg (by decide), if_pos rfl]
 simp only [if_true, ha, hb]
theorem readW_nohex {a b : UInt8} (t : List UInt8) (h : hexv a = none ∨ hexv b = none) : readW (92 :: 120 :: a :: b :: t) = none := by
 rw [readW_cons, if_neg (by decide), if_pos rfl]
 simp only [if_true]
 cases ha : hexv a with
 | none => simp
 | some u =>
  rcases h with h | h
  ·rw [ha] at h; cases h
  ·rw [h]
theorem readW_few {t : List UInt8} (h : t.length < 2) : readW (92 :: 120 :: t) = none := by
 rw [readW_cons, if_neg (by decide), if_pos rfl]
 simp only [if_true]
 match t, h with
 | [], _ => rfl
 | [a], _ => rfl
 | a :: b :: t, h => simp at h; omega
end Go.Sh
namespace Go.Sh
open Go
def consH (x : List UInt8) : List (List UInt8) → List (List UInt8)
 | [] => [x]
 | h :: r => (x ++ h) :: r
theorem consH_ne (x : List UInt8) (L : List (List UInt8)) : consH x L ≠ [] := by cases L <;> simp [consH]
end Go.Sh
namespace Go.Sh
open Go
def cutAt (c : UInt8) : List UInt8 → Option (List UInt8 × List UInt8)
 | [] => none
 | d :: t => if d = c then some ([], t) else (cutAt c t).map fun p => (d :: p.1, p.2)
theorem cutAt_index (c : UInt8) : ∀ l : List UInt8, Lib.indexByte l c = (match cutAt c l with | none => -1 | some p => (p.1.length : Int))
 | [] => rfl
 | d :: t => by
  rw [Lib.indexByte, cutAt, cutAt_index c t]
  by_cases h : d = c
  ·rw [if_pos h, if_pos (by rw [h]; exact beq_self_eq_true c)]; rfl
  ·rw [if_neg h, if_neg (by simpa using h)]
   cases hc : cutAt c t with
   | none => rfl
   | some p =>
    simp only [Option.map_some, List.length_cons]
    rw [if_neg (by simp only [beq_iff_eq]; omega)]
    exact (Int.natCast_add p.1.length 1).symm
theorem cutAt_some {c : UInt8} : ∀ {l : List UInt8} {p : List UInt8 × List UInt8}, cutAt c l = some p → l = p.1 ++ c :: p.2 ∧ c ∉ p.1
 | [], p, h => by cases h
 | d :: t, p, h => by
  rw [cutAt] at h
  split at h
  ·rename_i hd
   obtain rfl := Option.some.inj h
   exact ⟨by rw [hd]; rfl, by simp⟩
  ·rename_i hd
   cases hc : cutAt c t with
   | none => rw [hc] at h; cases h
   | some q =>
    rw [hc] at h
    obtain rfl := Option.some.inj h
    obtain ⟨h1, h2⟩ := cutAt_some hc
    refine ⟨by rw [h1]; rfl, ?_⟩
    simp only [List.mem_cons, not_or]
    exact ⟨fun e => hd e.symm, h2⟩
theorem cutAt_none {c : UInt8} : ∀ {l : List UInt8}, cutAt c l = none → c ∉ l
 | [], _ => by simp
 | d :: t, h => by
  rw [cutAt] at h
  split at h
  ·cases h
  ·rename_i hd
   have := cutAt_none (c := c) (l := t) (by cases hc : cutAt c t with
    | none => rfl
    | some q => rw [hc] at h; cases h)
   simp only [List.mem_cons, not_or]
   exact ⟨fun e => hd e.symm, this⟩
theorem cutAt_app {c : UInt8} : ∀ {l : List UInt8} (m : List UInt8), c ∉ l → cutAt c (l ++ c :: m) = some (l, m)
 | [], m, _ => by rw [List.nil_append, cutAt, if_pos rfl]
 | d :: t, m, h => by
  simp only [List.mem_cons, not_or] at h
  rw [List.cons_append, cutAt, if_neg fun e => h.1 e.symm, cutAt_app m h.2]
  rfl
theorem cutAt_of_not {c : UInt8} : ∀ {l : List UInt8}, c ∉ l → cutAt c l = none
 | [], _ => rfl
 | d :: t, h => by
  simp only [List.mem_cons, not_or] at h
  rw [cutAt, if_neg fun e => h.1 e.symm, cutAt_of_not h.2]
  rfl
theorem cutAt_len {c : UInt8} {l : List UInt8} {p : List UInt8 × List UInt8} (h : cutAt c l = some p) : l.length = p.1.length + 1 + p.2.length := by
 rw [(cutAt_some h).1]
 simp only [List.length_append, List.length_cons]
 omega
def splitAt' (c : UInt8) : List UInt8 → List (List UInt8)
 | [] => [[]]
 | d :: t => if d = c then [] :: splitAt' c t else consH [d] (splitAt' c t)
theorem splitAt_ne (c : UInt8) (s : List UInt8) : splitAt' c s ≠ [] := by
 cases s with
 | nil => simp [splitAt']
 | cons d t =>
  rw [splitAt']
  split
  ·simp
  ·exact consH_ne _ _
theorem splitAt_none {c : UInt8} : ∀ {s : List UInt8}, c ∉ s → splitAt' c s = [s]
 | [], _ => rfl
 | d :: t, h => by
  simp only [List.mem_cons, not_or] at h
  rw [splitAt', if_neg fun e => h.1 e.symm, splitAt_none h.2]
  rfl
theorem splitAt_app {c : UInt8} : ∀ {s : List UInt8} (t : List UInt8), c ∉ s → splitAt' c (s ++ c :: t) = s :: splitAt' c t
 | [], t, _ => by rw [List.nil_append, splitAt', if_pos rfl]
 | d :: s, t, h => by
  simp only [List.mem_cons, not_or] at h
  rw [List.cons_append, splitAt', if_neg fun e => h.1 e.symm, splitAt_app t h.2]
  rfl
theorem splitAt_len (c : UInt8) : ∀ s : List UInt8, (splitAt' c s).length = s.count c + 1
 | [] => rfl
 | d :: t => by
  rw [splitAt', List.count_cons]
  by_cases h : d = c
  ·rw [if_pos h, List.length_cons, splitAt_len c t, if_pos (by rw [h]; exact beq_self_eq_true c)]
  ·rw [if_neg h, if_neg (by simpa using h)]
   have := splitAt_len c t
   cases hs : splitAt' c t with
   | nil => exact absurd hs (splitAt_ne c t)
   | cons a r =>
    rw [hs] at this
    simpa [consH] using this
end Go.Sh
namespace Go.Sh
open Go
section
variable {α : Type} (f : List UInt8 → Option α)
def parseL : Nat → List UInt8 → Except Nat (List α)
 | 0, _ => .ok []
 | k + 1, s => if s = [] then .ok [] else match cutAt 10 s with
  | none => .error 1
  | some (one, rest) => match f one with
   | none => .error 1
   | some x => match parseL k rest with
    | .ok xs => .ok (x :: xs)
    | .error n => .error (n + 1)
theorem parseL_fuel : ∀ (k j : Nat) (s : List UInt8), s.length < k → s.length < j → parseL f k s = parseL f j s
 | 0, _, _, h, _ => absurd h (Nat.not_lt_zero _)
 | _ + 1, 0, _, _, h => absurd h (Nat.not_lt_zero _)
 | k + 1, j + 1, s, h1, h2 => by
  rw [parseL, parseL]
  split
  ·rfl
  ·cases hc : cutAt 10 s with
   | none => rfl
   | some p =>
    obtain ⟨one, rest⟩ := p
    have := cutAt_len hc
    simp only at this
    cases hf : f one with
    | none => simp only [hf]
    | some x =>
     simp only [hf]
     rw [parseL_fuel k j rest (by omega) (by omega)]
def parseV (s : List UInt8) : Except Nat (List α) := parseL f (s.length + 1) s
theorem parse_nil : parseV f [] = .ok [] := rfl
theorem parse_none {s : List UInt8} (h : s ≠ []) (hc : cutAt 10 s = none) : parseV f s = .error 1 := by
 rw [parseV, parseL, if_neg h, hc]
theorem parse_bad {s : List UInt8} {p : List UInt8 × List UInt8} (hc : cutAt 10 s = some p) (hf : f p.1 = none) : parseV f s = .error 1 := by
 have h : s ≠ [] := fun e => by rw [e] at hc; cases hc
 obtain ⟨one, rest⟩ := p
 rw [parseV, parseL, if_neg h, hc]
 simp only [hf]
theorem parse_some {s : List UInt8} {p : List UInt8 × List UInt8} {x : α} (hc : cutAt 10 s = some p) (hf : f p.1 = some x) : parseV f s = match parseV f p.2 with | .ok xs => .ok (x :: xs) | .error n => .error (n + 1) := by
 have h : s ≠ [] := fun e => by rw [e] at hc; cases hc
 have hl := cutAt_len hc
 obtain ⟨one, rest⟩ := p
 simp only at hl hf ⊢
 rw [parseV, parseL, if_neg h, hc]
 simp only [hf]
 rw [parseL_fuel f s.length (rest.length + 1) rest (by omega) (by omega)]
 rfl
def behind (xs : List α) : Except Nat (List α) → Except Nat (List α)
 | .ok ys => .ok (xs ++ ys)
 | .error n => .error (xs.length + n)
theorem behind_nil (r : Except Nat (List α)) : behind [] r = r := by
 cases r <;> simp [behind]
theorem behind_snoc (xs : List α) (x : α) (r : Except Nat (List α)) : behind xs (match r with | .ok ys => .ok (x :: ys) | .error n => .error (n + 1)) = behind (xs ++ [x]) r := by
 cases r <;> simp [behind]
 omega
theorem parse_all : ∀ (xs : List α) (s : List UInt8), parseV f s = .ok xs → xs.length ≤ s.length ∧ ∀ x ∈ xs, ∃ one : List UInt8, one.length ≤ s.length ∧ f one = some x
 | xs, s, h => by
  by_cases hs : s = []
  ·subst hs
   rw [parse_nil] at h
   obtain rfl := Except.ok.inj h
   simp
  ·cases hc : cutAt 10 s with
   | none => rw [parse_none f hs hc] at h; cases h
   | some p =>
    cases hf : f p.1 with
    | none => rw [parse_bad f hc hf] at h; cases h
    | some x =>
     rw [parse_some f hc hf] at h
     have hl := cutAt_len hc
     cases hp : parseV f p.2 with
     | error n => rw [hp] at h; cases h
     | ok ys =>
      rw [hp] at h
      obtain rfl := Except.ok.inj h
      obtain ⟨h1, h2⟩ := parse_all ys p.2 hp
      refine ⟨by rw [List.length_cons]; omega, fun y hy => ?_⟩
      rcases List.mem_cons.1 hy with rfl | hy
      ·exact ⟨p.1, by omega, hf⟩
      ·obtain ⟨one, k1, k2⟩ := h2 y hy
       exact ⟨one, by omega, k2⟩
termination_by _ s _ => s.length
decreasing_by omega
end
end Go.Sh
namespace Go.Sh
open Go
theorem inside_len : ∀ b : List UInt8, b.length ≤ (inside b).length
 | [] => by simp
 | c :: t => by
  have h := rune_len (l := c :: t) (by simp)
  have hp := rune_pos (c :: t)
  have ih := inside_len ((c :: t).drop (rune (c :: t)).2)
  rw [inside_step, List.length_append]
  rw [List.length_drop] at ih
  split
  ·rename_i ho
   have := odd_one ho
   simp only [List.length_cons, List.length_nil] at *
   omega
  ·split
   ·rename_i h12
    have := (rune_small (c := c) (t := t) (by omega)).2
    simp only [List.length_cons, List.length_nil] at *
    omega
   ·rw [List.length_take]
    omega
termination_by b => b.length
decreasing_by
 have := rune_pos (c :: t)
 simp only [List.length_drop, List.length_cons]
 omega
theorem inside_le : ∀ b : List UInt8, (inside b).length ≤ 4 * b.length
 | [] => by simp [inside_nil]
 | c :: t => by
  have h := rune_len (l := c :: t) (by simp)
  have hp := rune_pos (c :: t)
  have ih := inside_le ((c :: t).drop (rune (c :: t)).2)
  rw [inside_step, List.length_append]
  rw [List.length_drop] at ih
  split
  ·simp only [List.length_cons, List.length_nil] at *
   omega
  ·split
   ·simp only [List.length_cons, List.length_nil] at *
    omega
   ·rw [List.length_take]
    omega
termination_by b => b.length
decreasing_by
 have := rune_pos (c :: t)
 simp only [List.length_drop, List.length_cons]
 omega
theorem word_le (b : List UInt8) : (word b).length ≤ 4 * b.length + 2 := by
 rw [word_len]
 have := inside_le b
 omega
def atoiN (s : List UInt8) : Int := match Lib.atoiAll s with
 | .ok n => n
 | .range => Lib.atoiSat s
 | _ => 0
def atoiB (s : List UInt8) : Bool := match Lib.atoiAll s with
 | .ok _ => false
 | _ => true
theorem atoiN_in (s : List UInt8) : -9223372036854775808 ≤ atoiN s ∧ atoiN s ≤ 9223372036854775807 := by
 unfold atoiN
 cases h : Lib.atoiAll s with
 | range =>
  simp only [Lib.atoiSat]
  split <;> omega
 | ok n =>
  simp only []
  unfold Lib.atoiAll at h
  split at h
  ·cases h
  ·rename_i c r
   simp only at h
   split at h
   ·cases h
   ·cases h
   ·rename_i u hu
    have := Lib.parseMag_lt hu
    split at h
    ·cases h
    ·split at h
     ·cases h
     ·injection h with h
      split at h <;> omega
 | _ => simp only []; omega
theorem digits_len : ∀ (k u : Nat), u < 10 ^ (k + 1) → (Lib.decDigits u).length ≤ k + 1
 | 0, u, h => by
  rw [Lib.decDigits, dif_pos (by simpa using h)]
  simp
 | k + 1, u, h => by
  rw [Lib.decDigits]
  split
  ·simp
  ·rw [List.length_append]
   have := digits_len k (u / 10) (by rw [Nat.pow_succ] at h; omega)
   simp only [List.length_cons, List.length_nil]
   omega
theorem itoa_len {n : Int} (h : -9223372036854775808 ≤ n ∧ n ≤ 9223372036854775807) : (Lib.itoa n).length ≤ 21 := by
 unfold Lib.itoa
 split
 ·have := digits_len 19 n.natAbs (by omega)
  rw [List.length_cons]; omega
 ·have := digits_len 19 n.toNat (by omega)
  omega
end Go.Sh
namespace Go.Sh
open Go
theorem parseUint_app : ∀ (l m : List UInt8) (a v : Nat), Lib.parseUint10 a l = .ok v → Lib.parseUint10 a (l ++ m) = Lib.parseUint10 v m
 | [], m, a, v, h => by
  simp only [Lib.parseUint10] at h
  injection h with h
  subst h
  rfl
 | c :: r, m, a, v, h => by
  rw [List.cons_append]
  simp only [Lib.parseUint10] at h ⊢
  split at h
  ·rename_i h1
   rw [if_pos h1]
   split at h
   ·cases h
   ·rename_i h2
    rw [if_neg h2]
    split at h
    ·cases h
    ·rename_i h3
     rw [if_neg h3]
     exact parseUint_app r m _ v h
  ·cases h
theorem digit_nat {d : Nat} (h : d < 10) : (UInt8.ofNat (48 + d)).toNat = 48 + d := by
 rw [UInt8.toNat_ofNat']
 omega
theorem parse_digit {a d : Nat} (h : d < 10) (hv : a * 10 + d < 18446744073709551616) : Lib.parseUint10 a [UInt8.ofNat (48 + d)] = .ok (a * 10 + d) := by
 simp only [Lib.parseUint10, digit_nat h]
 rw [if_pos (by omega), if_neg (by omega), if_neg (by omega)]
 congr 1
 omega
theorem parse_digits (u : Nat) (h : u < 18446744073709551616) : Lib.parseUint10 0 (Lib.decDigits u) = .ok u := by
 induction u using Nat.strongRecOn with
 | _ u ih =>
  rw [Lib.decDigits]
  split
  ·rename_i hu
   have := parse_digit (a := 0) hu (by omega)
   rw [Nat.zero_mul, Nat.zero_add] at this
   exact this
  ·rename_i hu
   rw [parseUint_app _ _ _ _ (ih (u / 10) (by omega) (by omega)), parse_digit (by omega) (by omega)]
   congr 1
   omega
theorem digits_mem (u : Nat) : ∀ c ∈ Lib.decDigits u, 48 ≤ c.toNat ∧ c.toNat ≤ 57 := by
 induction u using Nat.strongRecOn with
 | _ u ih =>
  intro c hc
  rw [Lib.decDigits] at hc
  split at hc
  ·rename_i hu
   rw [List.mem_singleton.1 hc, digit_nat hu]
   omega
  ·rcases List.mem_append.1 hc with hc | hc
   ·exact ih (u / 10) (by omega) c hc
   ·rw [List.mem_singleton.1 hc, digit_nat (by omega)]
    omega
theorem digits_ne (u : Nat) : Lib.decDigits u ≠ [] := by
 rw [Lib.decDigits]
 split <;> simp
theorem atoi_itoa {n : Int} (h : -9223372036854775808 ≤ n ∧ n ≤ 9223372036854775807) : Lib.atoiAll (Lib.itoa n) = .ok n := by
 unfold Lib.itoa
 split
 ·rename_i hn
  have hp := parse_digits n.natAbs (by omega)
  unfold Lib.atoiAll
  simp only [show (45 : UInt8).toNat = 45 from rfl]
  rw [if_pos (.inr trivial)]
  have hm : Lib.parseMag (Lib.decDigits n.natAbs) = .ok n.natAbs := by
   unfold Lib.parseMag
   rw [if_neg (digits_ne _), hp]
  rw [hm]
  simp only []
  rw [if_neg (by simp), if_neg (by simp; omega), if_pos (by simp)]
  congr 1
  omega
 ·rename_i hn
  have hp := parse_digits n.toNat (by omega)
  have hm : Lib.parseMag (Lib.decDigits n.toNat) = .ok n.toNat := by
   unfold Lib.parseMag
   rw [if_neg (digits_ne _), hp]
  cases hd : Lib.decDigits n.toNat with
  | nil => exact absurd hd (digits_ne _)
  | cons c r =>
   have hc := digits_mem n.toNat c (by rw [hd]; exact .head _)
   unfold Lib.atoiAll
   simp only []
   rw [if_neg (by omega), ← hd, hm]
   simp only []
   rw [if_neg (by omega), if_neg (by omega), if_neg (by omega)]
   congr 1
   omega
theorem itoa_ne (n : Int) : Lib.itoa n ≠ [] := by
 unfold Lib.itoa
 split
 ·simp
 ·exact digits_ne _
theorem itoa_mem (n : Int) : ∀ c ∈ Lib.itoa n, 45 ≤ c.toNat ∧ c.toNat ≤ 57 := fun c hc => by
 unfold Lib.itoa at hc
 split at hc
 ·rcases List.mem_cons.1 hc with rfl | hc
  ·decide
  ·have := digits_mem _ c hc; omega
 ·have := digits_mem _ c hc; omega
theorem itoa_no {n : Int} {c : UInt8} (h : c.toNat < 45) : c ∉ Lib.itoa n := fun hc => by
 have := itoa_mem n c hc
 omega
theorem atoiN_itoa {n : Int} (h : -9223372036854775808 ≤ n ∧ n ≤ 9223372036854775807) : atoiN (Lib.itoa n) = n ∧ atoiB (Lib.itoa n) = false := by
 unfold atoiN atoiB
 rw [atoi_itoa h]
 exact ⟨rfl, rfl⟩
end Go.Sh
