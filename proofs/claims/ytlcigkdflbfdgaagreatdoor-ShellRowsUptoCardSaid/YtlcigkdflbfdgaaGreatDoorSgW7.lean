/-
 Walks: W1, W2, W3, W4, W5, W6, W7.
-/
import Derived.Test.YtlcigkdflbfdgaaGreatDoorSgG
import Derived.Test.YtlcigkdflbfdgaaGreatDoorEng28
import Derived.Test.YtlcigkdflbfdgaaGreatDoorPlain
namespace Go.Proofs.YtlcigkdflbfdgaaGreatDoor.sg
set_option linter.unusedVariables false
open Go Go.Eng Go.Sh
section
variable {os : List (Nat × AObj)}
theorem at_byteAt (l : List UInt8) (i : Nat) : byteAt (BA l) (i : Int) = (at' l i : Int) := by
 rw [BA_byteAt]; rfl
theorem at_byteAt0 (l : List UInt8) : byteAt (BA l) 0 = (at' l 0 : Int) := at_byteAt l 0
theorem at_byteAt1 (l : List UInt8) : byteAt (BA l) 1 = (at' l 1 : Int) := at_byteAt l 1
theorem at_byteAt2 (l : List UInt8) : byteAt (BA l) 2 = (at' l 2 : Int) := at_byteAt l 2
theorem at_byteAt3 (l : List UInt8) : byteAt (BA l) 3 = (at' l 3 : Int) := at_byteAt l 3

theorem prefixL (a b : List UInt8) : Gives (tabsOf os) (XX os) 1 76 [.string (BA a), .string (BA b)] (.bool (decide (a.take b.length = b))) := by
 intro A l Q hp H
 refine t76 (d := 0) (BA a, BA b, ()) fun n hn => ?_
 unfold f76
 simp only [M.join, BA_size]
 refine ev_ite (fun h => ?_) fun h => ?_
 ·rw [leB_nat, decide_eq_true_eq] at h
  refine ev_guard (by rw [upB_nat, decide_eq_true_eq]; exact h) ?_
  rw [Int.toNat_natCast, BA_extract, BA_seq, List.drop_zero]
  exact ev_pure (H A hp)
 ·rw [leB_nat, decide_eq_false_iff_not] at h
  have : ¬ a.take b.length = b := fun e => by
   have := congrArg List.length e
   rw [List.length_take] at this
   omega
  rw [decide_eq_false this] at H
  exact ev_pure (H A hp)
theorem prefixG (a b : List UInt8) : Gives (tabsOf os) (XX os) 2 59 [.string (BA a), .string (BA b)] (.bool (decide (a.take b.length = b))) := by
 intro A l Q hp H
 refine t59 (d := 1) (BA a, BA b, ()) fun n hn => ?_
 unfold f59
 exact (prefixL a b).use hn hp rfl fun A' h' => ev_pure (H A' h')
theorem indexL (a : List UInt8) (c : UInt8) : Gives (tabsOf os) (XX os) 1 77 [.string (BA a), .int .u8 (c.toNat : Int)] (.int .i64 (Lib.indexByte a c)) := by
 intro A l Q hp H
 refine t77 (d := 0) (BA a, (c.toNat : Int), ()) fun n hn => ?_
 unfold f77
 refine ev_pure ?_
 simp only [BA_data, Int.toNat_natCast, Nat.toUInt8_eq, UInt8.ofNat_toNat]
 exact H A hp
theorem indexG (a : List UInt8) (c : UInt8) : Gives (tabsOf os) (XX os) 2 60 [.string (BA a), .int .u8 (c.toNat : Int)] (.int .i64 (Lib.indexByte a c)) := by
 intro A l Q hp H
 refine t60 (d := 1) (BA a, (c.toNat : Int), ()) fun n hn => ?_
 unfold f60
 exact (indexL a c).use hn hp rfl fun A' h' => ev_pure (H A' h')

/-! ### Runes -/
noncomputable def firstRow : Row := Row.ofList ((List.range 256).map fun c => .int .u8 (firstN c))
def accL : List Value := [.int .u8 128, .int .u8 191, .int .u8 160, .int .u8 191, .int .u8 128, .int .u8 159, .int .u8 144, .int .u8 191, .int .u8 128, .int .u8 143] ++ List.replicate 22 (.int .u8 0)
noncomputable def accRow : Row := Row.ofList accL
structure Runes (os : List (Nat × AObj)) : Prop where
 first : ∃ p, tabsOf os 0 = some (firstRow, p)
 acc : ∃ p, tabsOf os 1 = some (accRow, p)
theorem first_at {c : Nat} (h : c < 256) : (firstRow.list.drop c).take 1 = [.int .u8 (firstN c)] := by
 unfold firstRow
 rw [Row.ofList_list]
 apply List.ext_getElem?
 intro i
 rw [List.getElem?_take, List.getElem?_drop, List.getElem?_map]
 cases i with
 | zero => simp [List.getElem?_range h]
 | succ i => simp
theorem acc_at {i : Nat} (h : i < 5) : (accRow.list.drop (i * 2)).take 2 = [.int .u8 (accLo i), .int .u8 (accHi i)] := by
 unfold accRow
 rw [Row.ofList_list]
 match i, h with
 | 0, _ => rfl
 | 1, _ => rfl
 | 2, _ => rfl
 | 3, _ => rfl
 | 4, _ => rfl
theorem firstN_div {c : Nat} (h : firstN c < 240) : firstN c / 16 < 5 ∧ 2 ≤ firstN c % 8 ∧ firstN c % 8 ≤ 4 := by
 unfold firstN at h ⊢
 (repeat' split) <;> simp_all
theorem topI32 {a : Nat} (h : a < 2147483648) : a ≤ topK .i32 := by show a ≤ 2147483647; omega
theorem topU8 {a : Nat} (h : a < 256) : a ≤ topK .u8 := by show a ≤ 255; omega
def rv (p : Nat × Nat) : Value := .tuple ⟨[.int .i32 (p.1 : Int), .int .i64 (p.2 : Int)]⟩
theorem mask_out : ∀ c : Fin 256, orW .i32 (bitsV .andNot .i32 (wrapW .i32 (c.val : Int)) (-1)) (andW .i32 65533 (-1)) = 65533 := by decide +kernel
theorem sh_i32 {a k : Nat} (h : a * 2 ^ k < 2147483648) : IntKind.i32.wrap ((a : Int) * 2 ^ k) = ((a * 2 ^ k : Nat) : Int) := by
 rw [show (a : Int) * 2 ^ k = ((a * 2 ^ k : Nat) : Int) by simp]
 exact wrap_nat (topI32 h)
theorem low_u8 (c m k : Nat) (hc : c < 256) (hm : m = 2 ^ k - 1) (h : m < 256) : wrapW .i32 (andW .u8 (c : Int) (m : Int)) = ((c % 2 ^ k : Nat) : Int) := by
 rw [andW_nat .u8 (topU8 hc) (topU8 h), hm, and_low, wrapW_nat (topI32 (by have := Nat.mod_le c (2 ^ k); omega))]
theorem or_i32 {a b k : Nat} (h : b < 2 ^ k) (h2 : a * 2 ^ k + b < 2147483648) : orW .i32 ((a * 2 ^ k : Nat) : Int) (b : Int) = ((a * 2 ^ k + b : Nat) : Int) := by
 rw [orW_nat .i32 (topI32 (by omega)) (topI32 (by omega)), or_low h]
theorem rune2 {c x : Nat} (hc : c < 256) (hx : x < 256) : orW .i32 (IntKind.i32.wrap ((wrapW .i32 (andW .u8 (c : Int) 31)) * 2 ^ (min (Int.toNat 6) IntKind.i32.bits))) (wrapW .i32 (andW .u8 (x : Int) 63)) = ((c % 32 * 64 + x % 64 : Nat) : Int) := by
 have e1 := low_u8 c 31 5 hc rfl (by decide)
 have e2 := low_u8 x 63 6 hx rfl (by decide)
 have l1 := Nat.mod_lt c (show 0 < 2 ^ 5 by decide)
 have l2 := Nat.mod_lt x (show 0 < 2 ^ 6 by decide)
 rw [show ((31 : Nat) : Int) = 31 from rfl] at e1
 rw [show ((63 : Nat) : Int) = 63 from rfl] at e2
 rw [e1, e2, show min (Int.toNat 6) IntKind.i32.bits = 6 from rfl, sh_i32 (by omega), or_i32 l2 (by omega)]
theorem rune3 {c x y : Nat} (hc : c < 256) (hx : x < 256) (hy : y < 256) : orW .i32 (orW .i32 (IntKind.i32.wrap ((wrapW .i32 (andW .u8 (c : Int) 15)) * 2 ^ (min (Int.toNat 12) IntKind.i32.bits))) (IntKind.i32.wrap ((wrapW .i32 (andW .u8 (x : Int) 63)) * 2 ^ (min (Int.toNat 6) IntKind.i32.bits)))) (wrapW .i32 (andW .u8 (y : Int) 63))
  = ((c % 16 * 4096 + x % 64 * 64 + y % 64 : Nat) : Int) := by
 have e1 := low_u8 c 15 4 hc rfl (by decide)
 have e2 := low_u8 x 63 6 hx rfl (by decide)
 have e3 := low_u8 y 63 6 hy rfl (by decide)
 have l1 := Nat.mod_lt c (show 0 < 2 ^ 4 by decide)
 have l2 := Nat.mod_lt x (show 0 < 2 ^ 6 by decide)
 have l3 := Nat.mod_lt y (show 0 < 2 ^ 6 by decide)
 rw [show ((15 : Nat) : Int) = 15 from rfl] at e1
 rw [show ((63 : Nat) : Int) = 63 from rfl] at e2 e3
 rw [e1, e2, e3, show min (Int.toNat 6) IntKind.i32.bits = 6 from rfl, show min (Int.toNat 12) IntKind.i32.bits = 12 from rfl, sh_i32 (by omega), sh_i32 (by omega), or_i32 (by omega) (by omega),
  show c % 2 ^ 4 * 2 ^ 12 + x % 2 ^ 6 * 2 ^ 6 = (c % 2 ^ 4 * 64 + x % 2 ^ 6) * 2 ^ 6 by omega, or_i32 l3 (by omega)]
theorem rune4 {c x y z : Nat} (hc : c < 256) (hx : x < 256) (hy : y < 256) (hz : z < 256) : orW .i32 (orW .i32 (orW .i32 (IntKind.i32.wrap ((wrapW .i32 (andW .u8 (c : Int) 7)) * 2 ^ (min (Int.toNat 18) IntKind.i32.bits))) (IntKind.i32.wrap ((wrapW .i32 (andW .u8 (x : Int) 63)) * 2 ^ (min (Int.toNat 12) IntKind.i32.bits)))) (IntKind.i32.wrap ((wrapW .i32 (andW .u8 (y : Int) 63)) * 2 ^ (min (Int.toNat 6) IntKind.i32.bits)))) (wrapW .i32 (andW .u8 (z : Int) 63))
  = ((c % 8 * 262144 + x % 64 * 4096 + y % 64 * 64 + z % 64 : Nat) : Int) := by
 have e1 := low_u8 c 7 3 hc rfl (by decide)
 have e2 := low_u8 x 63 6 hx rfl (by decide)
 have e3 := low_u8 y 63 6 hy rfl (by decide)
 have e4 := low_u8 z 63 6 hz rfl (by decide)
 have l1 := Nat.mod_lt c (show 0 < 2 ^ 3 by decide)
 have l2 := Nat.mod_lt x (show 0 < 2 ^ 6 by decide)
 have l3 := Nat.mod_lt y (show 0 < 2 ^ 6 by decide)
 have l4 := Nat.mod_lt z (show 0 < 2 ^ 6 by decide)
 rw [show ((7 : Nat) : Int) = 7 from rfl] at e1
 rw [show ((63 : Nat) : Int) = 63 from rfl] at e2 e3 e4
 rw [e1, e2, e3, e4, show min (Int.toNat 6) IntKind.i32.bits = 6 from rfl, show min (Int.toNat 12) IntKind.i32.bits = 12 from rfl, show min (Int.toNat 18) IntKind.i32.bits = 18 from rfl, sh_i32 (by omega), sh_i32 (by omega), sh_i32 (by omega), or_i32 (by omega) (by omega),
  show c % 2 ^ 3 * 2 ^ 18 + x % 2 ^ 6 * 2 ^ 12 = (c % 2 ^ 3 * 64 + x % 2 ^ 6) * 2 ^ 12 by omega, or_i32 (by omega) (by omega),
  show (c % 2 ^ 3 * 64 + x % 2 ^ 6) * 2 ^ 12 + y % 2 ^ 6 * 2 ^ 6 = ((c % 2 ^ 3 * 64 + x % 2 ^ 6) * 64 + y % 2 ^ 6) * 2 ^ 6 by omega, or_i32 l4 (by omega)]
theorem slowL {l : List UInt8} (hl : l ≠ []) (h0 : 128 ≤ at' l 0) (hr : Runes os) : Gives (tabsOf os) (XX os) 1 78 [.string (BA l)] (rv (rune l)) := by
 intro A L Q hp H
 have b0 := at_lt l 0; have b1 := at_lt l 1; have b2 := at_lt l 2; have b3 := at_lt l 3
 have hlen : 0 < l.length := List.length_pos_iff.2 hl
 obtain ⟨p1, hf⟩ := hr.first
 obtain ⟨p2, ha⟩ := hr.acc
 refine t78 (d := 0) (BA l, ()) fun n hn => ?_
 unfold f78
 simp only [BA_size, at_byteAt0]
 refine ev_f (by rw [show (1 : Int) = ((1 : Nat) : Int) from rfl, ltB_nat, decide_eq_false_iff_not]; omega) ?_
 refine ev_guard (by rw [show (0 : Int) = ((0 : Nat) : Int) from rfl, inB_nat, decide_eq_true_eq]; exact hlen) ?_
 refine ev_guard (by rw [inB_nat, decide_eq_true_eq]; exact b0) ?_
 unfold f78c5
 rw [Int.toNat_natCast, Nat.mul_one, add0]
 have hfl : firstRow.list.length = 256 := by unfold firstRow; rw [Row.ofList_list]; simp
 refine ev_tab (x := ((firstN (at' l 0) : Nat) : Int)) hp hf rfl (by rw [hfl]; show at' l 0 + 1 ≤ 256; omega) (by rw [first_at b0]; rfl) (by rw [first_at b0]; rfl) ?_
 by_cases hx : firstN (at' l 0) < 240
 ·refine ev_f (by rw [show (240 : Int) = ((240 : Nat) : Int) from rfl, leB_nat, decide_eq_false_iff_not]; omega) ?_
  obtain ⟨hd, hm⟩ := firstN_div hx
  rw [← slow_all hx] at H
  generalize firstN (at' l 0) = x at *
  unfold f78c4
  have e1 : wrapW .i64 (andW .u8 (x : Int) 7) = ((x % 8 : Nat) : Int) := by
   rw [show (7 : Int) = ((7 : Nat) : Int) from rfl, andW_nat .u8 (topU8 (by omega)) (topU8 (by decide)), show (7 : Nat) = 2 ^ 3 - 1 from rfl, and_low, wrapW_nat (by show _ ≤ 9223372036854775807; omega)]
  have e2 : ((x : Nat) : Int).fdiv (2 ^ (min (Int.toNat 4) IntKind.u8.bits)) = ((x / 16 : Nat) : Int) := fdiv_nat x 16
  simp only [e1, e2]
  refine ev_guard (by decide) (ev_guard (by rw [inB_nat, decide_eq_true_eq]; omega) ?_)
  rw [Int.toNat_natCast, add0]
  have hal : accRow.list.length = 32 := by unfold accRow; rw [Row.ofList_list]; rfl
  refine ev_tab (x := (((accLo (x / 16) : Nat) : Int), ((accHi (x / 16) : Nat) : Int), ())) hp ha rfl (by rw [hal]; show x / 16 * 2 + 2 ≤ 32; omega) (by rw [acc_at hd]; rfl) (by rw [acc_at hd]; rfl) ?_
  refine ev_new hp fun b A1 hp => ?_
  refine ev_store 0 hp rfl rfl (Nat.le_refl 2) rfl fun A2 hp => ?_
  replace hp : Hp _ A2 (.cells b [.int .u8 (accLo (x / 16) : Nat), .int .u8 (accHi (x / 16) : Nat)] _ _ _ _ :: L) := hp
  generalize elo : accLo (x / 16) = lo at *
  generalize ehi : accHi (x / 16) = hi at *
  unfold f78c3
  simp only [BA_size, at_byteAt1, M.join]
  have bad : ∀ A', Hp (tabsOf os) A' L → slowR l x = (65533, 1) → Q (rv (65533, 1)) A' := fun A' h' e => e ▸ H A' h'
  refine ev_ite (fun h => ?_) fun h => ?_
  ·rw [ltB_nat, decide_eq_true_eq] at h
   exact ev_pure (bad _ hp.tail (by unfold slowR; rw [if_pos h]))
  ·rw [ltB_nat, decide_eq_false_iff_not] at h
   have s1 : slowR l x = slowR l x := rfl
   conv at s1 =>
    rhs
    unfold slowR
   rw [if_neg h, elo, ehi] at s1
   refine ev_guard (by rw [show (1 : Int) = ((1 : Nat) : Int) from rfl, inB_nat, decide_eq_true_eq]; omega) ?_
   refine ev_load 0 hp rfl rfl rfl (Nat.le_of_ble_eq_true rfl) rfl ?_
   refine ev_ite (fun h1 => ?_) fun h1 => ?_
   ·rw [ltB_nat, decide_eq_true_eq] at h1
    exact ev_t rfl (ev_pure (bad _ hp.tail (by rw [s1, if_pos (by simp [h1])])))
   rw [ltB_nat, decide_eq_false_iff_not] at h1
   refine ev_load 0 hp rfl rfl rfl (Nat.le_of_ble_eq_true rfl) rfl ?_
   refine ev_ite (fun h2 => ?_) fun h2 => ?_
   ·rw [ltB_nat, decide_eq_true_eq] at h2
    exact ev_pure (bad _ hp.tail (by rw [s1, if_pos (by simp [h2])]))
   rw [ltB_nat, decide_eq_false_iff_not] at h2
   rw [if_neg (by simp; omega)] at s1
   unfold f78c2
   refine ev_ite (fun h3 => ?_) fun h3 => ?_
   ·rw [show (2 : Int) = ((2 : Nat) : Int) from rfl, leB_nat, decide_eq_true_eq] at h3
    rw [if_pos h3] at s1
    refine ev_guard (by decide) (ev_pure ?_)
    have := H _ hp.tail
    rw [s1] at this
    rw [rune2 b0 b1]
    exact this
   rw [show (2 : Int) = ((2 : Nat) : Int) from rfl, leB_nat, decide_eq_false_iff_not] at h3
   rw [if_neg h3] at s1
   simp only [BA_size, at_byteAt2, M.join]
   refine ev_guard (by rw [show (2 : Int) = ((2 : Nat) : Int) from rfl, inB_nat, decide_eq_true_eq]; omega) ?_
   refine ev_ite (fun h4 => ?_) fun h4 => ?_
   ·rw [show (128 : Int) = ((128 : Nat) : Int) from rfl, ltB_nat, decide_eq_true_eq] at h4
    exact ev_t rfl (ev_pure (bad _ hp.tail (by rw [s1, if_pos (by simp [tailB, h4])])))
   rw [show (128 : Int) = ((128 : Nat) : Int) from rfl, ltB_nat, decide_eq_false_iff_not] at h4
   refine ev_ite (fun h5 => ?_) fun h5 => ?_
   ·rw [show (191 : Int) = ((191 : Nat) : Int) from rfl, ltB_nat, decide_eq_true_eq] at h5
    exact ev_pure (bad _ hp.tail (by rw [s1, if_pos (by simp [tailB, h5])]))
   rw [show (191 : Int) = ((191 : Nat) : Int) from rfl, ltB_nat, decide_eq_false_iff_not] at h5
   rw [if_neg (by simp [tailB]; omega)] at s1
   unfold f78c1
   refine ev_ite (fun h6 => ?_) fun h6 => ?_
   ·rw [show (3 : Int) = ((3 : Nat) : Int) from rfl, leB_nat, decide_eq_true_eq] at h6
    rw [if_pos h6] at s1
    refine ev_guard (by decide) (ev_guard (by decide) (ev_pure ?_))
    have := H _ hp.tail
    rw [s1] at this
    rw [rune3 b0 b1 b2]
    exact this
   rw [show (3 : Int) = ((3 : Nat) : Int) from rfl, leB_nat, decide_eq_false_iff_not] at h6
   rw [if_neg h6] at s1
   simp only [BA_size, at_byteAt3, M.join]
   refine ev_guard (by rw [show (3 : Int) = ((3 : Nat) : Int) from rfl, inB_nat, decide_eq_true_eq]; omega) ?_
   unfold f78c0
   refine ev_ite (fun h7 => ?_) fun h7 => ?_
   ·rw [show (128 : Int) = ((128 : Nat) : Int) from rfl, ltB_nat, decide_eq_true_eq] at h7
    exact ev_t rfl (ev_pure (bad _ hp.tail (by rw [s1, if_pos (by simp [tailB, h7])])))
   rw [show (128 : Int) = ((128 : Nat) : Int) from rfl, ltB_nat, decide_eq_false_iff_not] at h7
   refine ev_ite (fun h8 => ?_) fun h8 => ?_
   ·rw [show (191 : Int) = ((191 : Nat) : Int) from rfl, ltB_nat, decide_eq_true_eq] at h8
    exact ev_pure (bad _ hp.tail (by rw [s1, if_pos (by simp [tailB, h8])]))
   rw [show (191 : Int) = ((191 : Nat) : Int) from rfl, ltB_nat, decide_eq_false_iff_not] at h8
   rw [if_neg (by simp [tailB]; omega)] at s1
   refine ev_guard (by decide) (ev_guard (by decide) (ev_guard (by decide) (ev_pure ?_)))
   have := H _ hp.tail
   rw [s1] at this
   rw [rune4 b0 b1 b2 b3]
   exact this
 ·obtain ⟨e, hb⟩ := firstN_bad h0 hx
  rw [rune_bad h0 hb] at H
  rw [e]
  refine ev_t (by decide) (ev_guard (by decide) (ev_guard (by decide) (ev_guard (by rw [show (0 : Int) = ((0 : Nat) : Int) from rfl, inB_nat, decide_eq_true_eq]; exact hlen) (ev_pure ?_))))
  have := mask_out ⟨at' l 0, b0⟩
  have em : (((IntKind.i32.wrap ((wrapW .i32 ((241 : Nat) : Int)) * 2 ^ (min (Int.toNat 31) IntKind.i32.bits))) : Int)).fdiv (2 ^ (min (Int.toNat 31) IntKind.i32.bits)) = -1 := by decide +kernel
  simp only [em, at_byteAt0]
  rw [this]
  exact H A hp
theorem decodeG {l : List UInt8} (hl : l ≠ []) (hr : Runes os) : Gives (tabsOf os) (XX os) 2 62 [.string (BA l)] (rv (rune l)) := by
 intro A L Q hp H
 have b0 := at_lt l 0
 have hlen : 0 < l.length := List.length_pos_iff.2 hl
 refine t62 (d := 1) (BA l, ()) fun n hn => ?_
 unfold f62
 simp only [BA_size, at_byteAt0, M.join]
 refine ev_t (by rw [show st0 = BA [] from rfl, BA_seq, decide_eq_false hl]; rfl) ?_
 refine ev_guard (by rw [show (0 : Int) = ((0 : Nat) : Int) from rfl, inB_nat, decide_eq_true_eq]; exact hlen) ?_
 refine ev_ite (fun h => ?_) fun h => ?_
 ·rw [show (128 : Int) = ((128 : Nat) : Int) from rfl, ltB_nat, decide_eq_true_eq] at h
  rw [rune_one h] at H
  refine ev_guard (by rw [show (0 : Int) = ((0 : Nat) : Int) from rfl, inB_nat, decide_eq_true_eq]; exact hlen) (ev_pure ?_)
  rw [wrapW_nat (topI32 (by omega))]
  exact H A hp
 ·rw [show (128 : Int) = ((128 : Nat) : Int) from rfl, ltB_nat, decide_eq_false_iff_not] at h
  exact (slowL hl (by omega) hr).use hn hp rfl fun A' h' => ev_pure (H A' h')
end
end Go.Proofs.YtlcigkdflbfdgaaGreatDoor.sg
namespace Go.Proofs.YtlcigkdflbfdgaaGreatDoor.sg
set_option linter.unusedVariables false
open Go Go.Eng Go.Sh
section
variable {os : List (Nat × AObj)} {A : AW} {Q : Value → AW → Prop} {l : List Thing}
/-- A Builder that lies at b, and its bytes. -/
abbrev bldr (b : Nat) (p a : Option Addr) (bs : List UInt8) (l : List Thing) : List Thing := .cells b [.pointer p, .slice a bs.length bs.length] 85 false (0, 0) false :: .vec 5 1 false a bs.length bs.length (u8s bs) :: l
theorem veqv_slice (a : Option Addr) (n c : Nat) : veqv (.slice a n c) (.slice a n c) = true := by
 simp [veqv, veq1]
theorem copyG {b : Nat} {p : Option Addr} {v : Value} (hp : Hp (tabsOf os) A (.cells b [.pointer p, v] 85 false (0, 0) false :: l)) (h : p = none ∨ p = some ⟨b, 0, none⟩)
  (H : ∀ A', Hp (tabsOf os) A' (.cells b [.pointer (some ⟨b, 0, none⟩), v] 85 false (0, 0) false :: l) → Q (.tuple ⟨[]⟩) A') : Goes (XX os) 1 68 [.pointer (some ⟨b, 0, none⟩)] A Q := by
 refine t68 (d := 0) (some ⟨b, 0, none⟩, ()) fun n hn => ?_
 unfold f68
 refine ev_load 0 hp rfl rfl rfl (Nat.le_of_ble_eq_true rfl) rfl (ev_eqPtr_nil ?_)
 rcases h with rfl | rfl
 ·refine ev_t rfl ?_
  refine ev_unsafe 0 hp rfl (t := 85) (by kernel_rfl) (by kernel_rfl) (Nat.le_of_ble_eq_true rfl) (by kernel_rfl) ?_
  refine ev_unsafe_back 0 hp rfl (t := 85) (by kernel_rfl) (by kernel_rfl) (by kernel_rfl) (by kernel_rfl) ?_
  exact ev_store 0 hp rfl rfl (Nat.le_of_ble_eq_true rfl) rfl fun A1 hp => ev_pure (H A1 hp)
 ·refine ev_f rfl ?_
  refine ev_load 0 hp rfl rfl rfl (Nat.le_of_ble_eq_true rfl) rfl (ev_eqPtr_same 0 hp rfl ?_)
  exact ev_f rfl (ev_pure (H A hp))
theorem writeByteG {b : Nat} {p a : Option Addr} {bs : List UInt8} (c : UInt8) (hp : Hp (tabsOf os) A (bldr b p a bs l)) (h : p = none ∨ p = some ⟨b, 0, none⟩) (hb : bs.length < 2 ^ 40)
  (H : ∀ A' a', Hp (tabsOf os) A' (bldr b (some ⟨b, 0, none⟩) a' (bs ++ [c]) l) → Q .nilIface A') : Goes (XX os) 2 61 [.pointer (some ⟨b, 0, none⟩), .int .u8 (c.toNat : Int)] A Q := by
 refine t61 (d := 1) (some ⟨b, 0, none⟩, (c.toNat : Int), ()) fun n hn => ?_
 unfold f61
 refine (copyG hp h fun A1 hp => ⟨(), rfl, ?_⟩).use hn
 refine ev_load 0 hp rfl rfl rfl (Nat.le_of_ble_eq_true rfl) rfl ?_
 refine ev_new hp fun b3 A2 hp => ?_
 refine ev_append_row 2 0 hp rfl rfl rfl (Nat.le_refl _) (Nat.le_refl _) (by show (2 * (bs.length + 1) + 200) * 1 ≤ 2 ^ 48; omega) rfl fun A3 a' hp => ?_
 refine ev_store 1 hp rfl rfl (Nat.le_of_ble_eq_true rfl) rfl fun A4 hp => ev_pure (H A4 a' ?_)
 have e : (bs ++ [c]).length = bs.length + 1 := by simp
 unfold bldr
 rw [e, u8s_append]
 exact hp.tail
theorem writeStringG {b : Nat} {p a : Option Addr} {bs : List UInt8} (s : List UInt8) (hp : Hp (tabsOf os) A (bldr b p a bs l)) (h : p = none ∨ p = some ⟨b, 0, none⟩) (hb : bs.length + s.length < 2 ^ 40)
  (H : ∀ A' a', Hp (tabsOf os) A' (bldr b (some ⟨b, 0, none⟩) a' (bs ++ s) l) → Q (.tuple ⟨[.int .i64 (s.length : Int), .nilIface]⟩) A') : Goes (XX os) 2 34 [.pointer (some ⟨b, 0, none⟩), .string (BA s)] A Q := by
 refine t34 (d := 1) (some ⟨b, 0, none⟩, BA s, ()) fun n hn => ?_
 unfold f34
 refine (copyG hp h fun A1 hp => ⟨(), rfl, ?_⟩).use hn
 refine ev_load 0 hp rfl rfl rfl (Nat.le_of_ble_eq_true rfl) rfl ?_
 refine ev_append_str 1 hp rfl (by show (2 * (bs.length + s.length) + 200) * 1 ≤ 2 ^ 48; omega) fun A3 a' hp => ?_
 refine ev_store 0 hp rfl rfl (Nat.le_of_ble_eq_true rfl) rfl fun A4 hp => ev_pure (H A4 a' ?_)
 have e : (bs ++ s).length = bs.length + s.length := List.length_append
 unfold bldr
 rw [e, u8s_append]
 exact hp
theorem stringG {b : Nat} {p a : Option Addr} {bs : List UInt8} (hp : Hp (tabsOf os) A (bldr b p a bs l)) (hb : bs.length < 2 ^ 40) (hna : a = none ∨ 1 ≤ bs.length)
  (H : ∀ A', Hp (tabsOf os) A' l → Q (.string (BA bs)) A') : Goes (XX os) 1 36 [.pointer (some ⟨b, 0, none⟩)] A Q := by
 refine t36 (d := 0) (some ⟨b, 0, none⟩, ()) fun n hn => ?_
 unfold f36
 refine ev_load 0 hp rfl rfl rfl (Nat.le_of_ble_eq_true rfl) rfl ?_
 refine ev_load 0 hp rfl rfl rfl (Nat.le_of_ble_eq_true rfl) rfl ?_
 refine ev_sliceData hna ?_
 refine ev_load 0 hp rfl rfl rfl (Nat.le_of_ble_eq_true rfl) rfl ?_
 refine ev_cond_t (veqv_slice _ _ _) ?_
 refine ev_unsafeString 1 hp rfl (u := 5) (by kernel_rfl) (by kernel_rfl) (by kernel_rfl) (by show bs.length < _; omega) hna fun A1 hp => ev_pure ?_
 exact H A1 hp.tail
theorem lenG {b : Nat} {p a : Option Addr} {bs : List UInt8} (hp : Hp (tabsOf os) A (bldr b p a bs l)) (H : ∀ A', Hp (tabsOf os) A' (bldr b p a bs l) → Q (.int .i64 (bs.length : Int)) A') : Goes (XX os) 1 35 [.pointer (some ⟨b, 0, none⟩)] A Q := by
 refine t35 (d := 0) (some ⟨b, 0, none⟩, ()) fun n hn => ?_
 unfold f35
 exact ev_load 0 hp rfl rfl rfl (Nat.le_of_ble_eq_true rfl) rfl (ev_pure (H A hp))
theorem wrapU8 (a : Nat) : wrapW .u8 (a : Int) = ((a % 256 : Nat) : Int) := by
 rw [wrapW_eq]
 simp only [IntKind.wrap, show IntKind.u8.bits = 8 from rfl, show IntKind.u8.signed = false from rfl, Bool.false_and, Bool.false_eq_true, if_false]
 omega
theorem contB (q : Nat) : orW .u8 128 (andW .u8 (wrapW .u8 (q : Int)) 63) = ((128 + q % 64 : Nat) : Int) := by
 rw [wrapU8, show (63 : Int) = ((63 : Nat) : Int) from rfl, andW_nat .u8 (topU8 (by omega)) (topU8 (by decide)), show (63 : Nat) = 2 ^ 6 - 1 from rfl, and_low, show (128 : Int) = ((2 * 2 ^ 6 : Nat) : Int) from rfl,
  orW_nat .u8 (topU8 (by decide)) (topU8 (by omega)), or_low (by omega)]
 exact congrArg _ (by omega)
theorem leadB (a k : Nat) {q : Nat} (hq : q < 2 ^ k) (h : a * 2 ^ k + q < 256) : orW .u8 ((a * 2 ^ k : Nat) : Int) (wrapW .u8 (q : Int)) = ((a * 2 ^ k + q : Nat) : Int) := by
 rw [wrapU8, Nat.mod_eq_of_lt (by omega), orW_nat .u8 (topU8 (by omega)) (topU8 (by omega)), or_low hq]
theorem shr (r k : Nat) : ((r : Nat) : Int).fdiv (2 ^ k) = ((r / 2 ^ k : Nat) : Int) := by
 have := fdiv_nat r (2 ^ k)
 rw [← this]
 simp
theorem u8v (n : Nat) (h : n < 256) : (Value.int .u8 (n : Int)) = .int .u8 ((UInt8.ofNat n).toNat : Int) := by
 rw [UInt8.toNat_ofNat', Nat.mod_eq_of_lt h]
/-- A rune behind a slice of bytes: valid ones alone. -/
theorem appendRuneG {a : Option Addr} {ish : Bool} {bs : List UInt8} {r : Nat} (hp : Hp (tabsOf os) A (.vec 5 1 ish a bs.length bs.length (u8s bs) :: l)) (hv : Utf8.valid (r : Int) = true) (hb : bs.length < 2 ^ 40)
  (H : ∀ A' a' m, m = (bs ++ (Utf8.encode (r : Int)).data.toList).length → Hp (tabsOf os) A' (.vec 5 1 ish a' m m (u8s (bs ++ (Utf8.encode (r : Int)).data.toList)) :: l) → Q (.slice a' m m) A') : Goes (XX os) 2 79 [.slice a bs.length bs.length, .int .i32 (r : Int)] A Q := by
 have hr : r < 0xD800 ∨ (0xE000 ≤ r ∧ r ≤ 0x10FFFF) := (valid_nat r).1 hv
 have er : Utf8.encode (r : Int) = Utf8.encode (r : Int) := rfl
 conv at er =>
  rhs
  unfold Utf8.encode
 rw [if_pos hv, Int.toNat_natCast] at er
 have key : ∀ {Q' : Value → AW → Prop} (cs : List UInt8), (Utf8.encode (r : Int)).data.toList = cs → cs.length ≤ 4 → ∀ (A1 : AW) (b3 : Nat) (vs : List Value) (K : Option Addr → Nat → Nat → M Value), vs = u8s cs → Hp (tabsOf os) A1 (.cells b3 vs 5 false (0, 0) false :: .vec 5 1 ish a bs.length bs.length (u8s bs) :: l) →
   (∀ a' m A', Hp (tabsOf os) A' (.vec 5 1 ish a' m m (u8s (bs ++ cs)) :: l) → m = (bs ++ cs).length → Ev (K a' m m) A' Q') → Ev (M.append 5 1 1 a bs.length bs.length (.slice (some (Addr.mk b3 0 none)) cs.length cs.length) K) A1 Q' := by
  intro Q' cs hcs hl A1 b3 vs K hvs hp HK
  subst hvs
  refine ev_append_row 1 0 hp rfl rfl (by rw [u8s_length, Nat.mul_one]) (Nat.le_refl _) (Nat.le_refl _) (by omega) (u8s_one _) fun A3 a' hp => ?_
  have e : (bs ++ cs).length = bs.length + cs.length := List.length_append
  have := HK a' (bs.length + cs.length) A3 (by rw [u8s_append]; exact hp.tail) e.symm
  exact this
 refine t79 (d := 1) ((a, bs.length, bs.length), (r : Int), ()) fun n hn => ?_
 unfold f79
 have hw : wrapW .u32 (r : Int) = (r : Int) := wrapW_nat (by show r ≤ 4294967295; omega)
 simp only [hw]
 refine ev_ite (fun h => ?_) fun h => ?_
 ·rw [show (127 : Int) = ((127 : Nat) : Int) from rfl, leB_nat, decide_eq_true_eq] at h
  rw [if_pos (by omega)] at er
  refine ev_new hp fun b3 A2 hp => ?_
  refine key [UInt8.ofNat r] (by rw [er]) (Nat.le_of_ble_eq_true rfl) A2 b3 _ _ (by rw [wrapU8, Nat.mod_eq_of_lt (by omega), u8v r (by omega)]; rfl) hp fun a' m A' h' hm => ev_pure (H A' a' m (by rw [er]; exact hm) (by rw [er]; exact h'))
 rw [show (127 : Int) = ((127 : Nat) : Int) from rfl, leB_nat, decide_eq_false_iff_not] at h
 refine Goes.use (d := 1) ?_ hn
 refine t87 (d := 0) ((a, bs.length, bs.length), (r : Int), ()) fun n hn => ?_
 unfold f87 f87c3
 simp only [hw]
 refine ev_ite (fun h2 => ?_) fun h2 => ?_
 ·rw [show (2047 : Int) = ((2047 : Nat) : Int) from rfl, leB_nat, decide_eq_true_eq] at h2
  rw [if_neg (by omega), if_pos (by omega)] at er
  refine ev_guard (by decide) (ev_new hp fun b3 A2 hp => ?_)
  refine key [UInt8.ofNat (192 + r / 64), UInt8.ofNat (128 + r % 64)] (by rw [er]) (Nat.le_of_ble_eq_true rfl) A2 b3 _ _ ?_ hp fun a' m A' h' hm => ev_pure ⟨_, rfl, ev_pure (H A' a' m (by rw [er]; exact hm) (by rw [er]; exact h'))⟩
  have e1 : ((r : Nat) : Int).fdiv (2 ^ min (Int.toNat 6) IntKind.i32.bits) = ((r / 64 : Nat) : Int) := shr r 6
  rw [e1, contB, show (192 : Int) = ((6 * 2 ^ 5 : Nat) : Int) from rfl, leadB 6 5 (by omega) (by omega), u8v (6 * 2 ^ 5 + r / 64) (by omega), u8v (128 + r % 64) (by omega)]
  rfl
 rw [show (2047 : Int) = ((2047 : Nat) : Int) from rfl, leB_nat, decide_eq_false_iff_not] at h2
 have three : r < 65536 → Ev (f87c0 (XX os n) LL ((a, bs.length, bs.length), (r : Int), ())) A (fun v A' => ∃ x, (RSh.one (.cell .slice)).prj v = some x ∧ Ev (M.pure (.slice x.1 x.2.1 x.2.2)) A' Q) := fun h3 => by
  rw [if_neg (by omega), if_neg (by omega), if_pos (by omega)] at er
  unfold f87c0
  refine ev_guard (by decide) (ev_guard (by decide) (ev_new hp fun b3 A2 hp => ?_))
  refine key [UInt8.ofNat (224 + r / 4096), UInt8.ofNat (128 + r / 64 % 64), UInt8.ofNat (128 + r % 64)] (by rw [er]) (Nat.le_of_ble_eq_true rfl) A2 b3 _ _ ?_ hp fun a' m A' h' hm => ev_pure ⟨_, rfl, ev_pure (H A' a' m (by rw [er]; exact hm) (by rw [er]; exact h'))⟩
  have e1 : ((r : Nat) : Int).fdiv (2 ^ min (Int.toNat 6) IntKind.i32.bits) = ((r / 64 : Nat) : Int) := shr r 6
  have e2 : ((r : Nat) : Int).fdiv (2 ^ min (Int.toNat 12) IntKind.i32.bits) = ((r / 4096 : Nat) : Int) := shr r 12
  simp only [e1, e2]
  rw [contB, contB, show (224 : Int) = ((14 * 2 ^ 4 : Nat) : Int) from rfl, leadB 14 4 (by omega) (by omega), u8v (14 * 2 ^ 4 + r / 4096) (by omega), u8v (128 + r / 64 % 64) (by omega), u8v (128 + r % 64) (by omega)]
  rfl
 simp only [M.join]
 refine ev_ite (fun h3 => ?_) fun h3 => ?_
 ·rw [show (55296 : Int) = ((55296 : Nat) : Int) from rfl, ltB_nat, decide_eq_true_eq] at h3
  exact ev_t rfl (three (by omega))
 rw [show (55296 : Int) = ((55296 : Nat) : Int) from rfl, ltB_nat, decide_eq_false_iff_not] at h3
 refine ev_t (by rw [show (57343 : Int) = ((57343 : Nat) : Int) from rfl, ltB_nat, decide_eq_true_eq]; omega) ?_
 refine ev_ite (fun h4 => ?_) fun h4 => ?_
 ·rw [show (65535 : Int) = ((65535 : Nat) : Int) from rfl, leB_nat, decide_eq_true_eq] at h4
  exact three (by omega)
 rw [show (65535 : Int) = ((65535 : Nat) : Int) from rfl, leB_nat, decide_eq_false_iff_not] at h4
 unfold f87c2
 simp only [M.join]
 refine ev_t (by rw [show (65535 : Int) = ((65535 : Nat) : Int) from rfl, ltB_nat, decide_eq_true_eq]; omega) ?_
 refine ev_t (by rw [show (1114111 : Int) = ((1114111 : Nat) : Int) from rfl, leB_nat, decide_eq_true_eq]; omega) ?_
 refine ev_guard (by decide) ?_
 unfold f87c1
 rw [if_neg (by omega), if_neg (by omega), if_neg (by omega)] at er
 refine ev_guard (by decide) (ev_guard (by decide) (ev_new hp fun b3 A2 hp => ?_))
 refine key [UInt8.ofNat (240 + r / 262144), UInt8.ofNat (128 + r / 4096 % 64), UInt8.ofNat (128 + r / 64 % 64), UInt8.ofNat (128 + r % 64)] (by rw [er]) (Nat.le_of_ble_eq_true rfl) A2 b3 _ _ ?_ hp fun a' m A' h' hm => ev_pure ⟨_, rfl, ev_pure (H A' a' m (by rw [er]; exact hm) (by rw [er]; exact h'))⟩
 have e1 : ((r : Nat) : Int).fdiv (2 ^ min (Int.toNat 6) IntKind.i32.bits) = ((r / 64 : Nat) : Int) := shr r 6
 have e2 : ((r : Nat) : Int).fdiv (2 ^ min (Int.toNat 12) IntKind.i32.bits) = ((r / 4096 : Nat) : Int) := shr r 12
 have e3 : ((r : Nat) : Int).fdiv (2 ^ min (Int.toNat 18) IntKind.i32.bits) = ((r / 262144 : Nat) : Int) := shr r 18
 simp only [e1, e2, e3]
 rw [contB, contB, contB, show (240 : Int) = ((30 * 2 ^ 3 : Nat) : Int) from rfl, leadB 30 3 (by omega) (by omega), u8v (30 * 2 ^ 3 + r / 262144) (by omega), u8v (128 + r / 4096 % 64) (by omega), u8v (128 + r / 64 % 64) (by omega), u8v (128 + r % 64) (by omega)]
 rfl
theorem writeRuneG {b : Nat} {p a : Option Addr} {bs : List UInt8} {r : Nat} (hp : Hp (tabsOf os) A (bldr b p a bs l)) (h : p = none ∨ p = some ⟨b, 0, none⟩) (hv : Utf8.valid (r : Int) = true) (hb : bs.length < 2 ^ 40)
  (H : ∀ A' a' v, Hp (tabsOf os) A' (bldr b (some ⟨b, 0, none⟩) a' (bs ++ (Utf8.encode (r : Int)).data.toList) l) → Q (.tuple ⟨[.int .i64 v, .nilIface]⟩) A') : Goes (XX os) 3 64 [.pointer (some ⟨b, 0, none⟩), .int .i32 (r : Int)] A Q := by
 refine t64 (d := 2) (some ⟨b, 0, none⟩, (r : Int), ()) fun n hn => ?_
 unfold f64
 refine ((copyG hp h fun A1 hp => ⟨(), rfl, ?_⟩).mono (show 1 ≤ 2 by decide)).use hn
 unfold f64c0
 refine ev_load 0 hp rfl rfl rfl (Nat.le_of_ble_eq_true rfl) rfl ?_
 refine ev_load 0 hp rfl rfl rfl (Nat.le_of_ble_eq_true rfl) rfl ?_
 refine (appendRuneG (hp.front 1 rfl) hv hb fun A' a' m hm hp => ⟨(a', m, m), rfl, ?_⟩).use hn
 refine ev_store 1 hp rfl rfl (Nat.le_of_ble_eq_true rfl) rfl fun A4 hp => ?_
 refine ev_load 1 hp rfl rfl rfl (Nat.le_of_ble_eq_true rfl) rfl ?_
 refine ev_pure (H A4 a' _ ?_)
 unfold bldr
 rw [← hm]
 exact hp.front 1 rfl
end
end Go.Proofs.YtlcigkdflbfdgaaGreatDoor.sg
namespace Go.Proofs.YtlcigkdflbfdgaaGreatDoor.sg
set_option linter.unusedVariables false
open Go Go.Eng Go.Sh
section
variable {os : List (Nat × AObj)} {A : AW} {Q : Value → AW → Prop} {l : List Thing}
theorem ev_LL {σ ρ : Type} {f : σ → M (σ ⊕ ρ)} {A : AW} {Q : ρ → AW → Prop} {s : σ} {m : Nat} (Inv : Nat → σ → AW → Prop) (h : Inv m s A) (hm : m < 1000000000000)
  (step : ∀ m s A, Inv m s A → Ev (f s) A (Round (fun s' A' => ∃ m', m' < m ∧ Inv m' s' A') Q)) : Ev (LL f s) A Q := ev_loop Inv step h hm
theorem decode_BA (s : List UInt8) (i : Nat) : Utf8.decode (BA s) i = rune (s.drop i) := by
 rw [decode_eq, dec_rune]; rfl
theorem drop_cons {s : List UInt8} {i : Nat} (h : i < s.length) : ∃ c t, s.drop i = c :: t := by
 cases hd : s.drop i with
 | nil =>
  have := congrArg List.length hd
  rw [List.length_drop] at this
  have h9 : s.length - i = 0 := this
  omega
 | cons c t => exact ⟨c, t, rfl⟩
theorem rune_len_drop {s : List UInt8} {i : Nat} (h : i < s.length) : i + (rune (s.drop i)).2 ≤ s.length := by
 obtain ⟨c, t, e⟩ := drop_cons h
 have := rune_len (l := s.drop i) (by rw [e]; simp)
 rw [List.length_drop] at this
 omega
theorem wholeG (s : List UInt8) (hs : s.length < 2 ^ 38) (hr : Runes os) : Gives (tabsOf os) (XX os) 3 63 [.string (BA s)] (.bool (whole s)) := by
 intro A l Q hp H
 refine t63 (d := 2) (BA s, ()) fun n hn => ?_
 unfold f63
 refine ev_iter hp fun b A1 hp => ?_
 unfold f63c0
 refine ev_bind (ev_LL (fun m _ A' => ∃ pos, m = s.length - pos ∧ pos ≤ s.length ∧ Hp (tabsOf os) A' (.iter b (BA s) pos :: l) ∧ whole s = whole (s.drop pos)) (m := s.length) ⟨0, rfl, by omega, hp, rfl⟩ (by omega) ?_)
 rintro m _ A2 ⟨pos, rfl, hpos, hp, hw⟩
 refine ev_next 0 hp rfl (fun hge => ?_) fun hlt A3 hp => ?_
 ·refine ev_pure (ev_pure ?_)
  rw [BA_size] at hge
  rw [List.drop_of_length_le hge, whole] at hw
  rw [hw] at H
  exact H A2 hp.tail
 rw [BA_size] at hlt
 rw [decode_BA] at hp ⊢
 have hle := rune_len_drop hlt
 obtain ⟨c, t, e⟩ := drop_cons hlt
 have hpos2 := rune_pos (s.drop pos)
 simp only [upB_nat, BA_size]
 refine ev_guard (decide_eq_true (by omega)) ?_
 rw [Int.toNat_natCast, BA_till]
 refine (decodeG (l := s.drop pos) (by rw [e]; simp) hr).use hn hp rfl fun A4 hp => ?_
 simp only [M.join]
 have hstep := hw
 rw [e, whole, ← e] at hstep
 refine ev_ite (fun h => ?_) fun h => ?_
 ·rw [show (65533 : Int) = ((65533 : Nat) : Int) from rfl, eqB_nat, decide_eq_true_eq] at h
  refine ev_ite (fun h2 => ?_) fun h2 => ?_
  ·rw [show (1 : Int) = ((1 : Nat) : Int) from rfl, eqB_nat, decide_eq_true_eq] at h2
   rw [if_pos ⟨h, h2⟩] at hstep
   rw [hstep] at H
   exact ev_pure (ev_pure (H A4 hp.tail))
  ·rw [show (1 : Int) = ((1 : Nat) : Int) from rfl, eqB_nat, decide_eq_false_iff_not] at h2
   rw [if_neg (fun q => h2 q.2), List.drop_drop] at hstep
   exact ev_pure ⟨_, by omega, _, rfl, hle, hp, hstep⟩
 ·rw [show (65533 : Int) = ((65533 : Nat) : Int) from rfl, eqB_nat, decide_eq_false_iff_not] at h
  rw [if_neg (fun q => h q.1), List.drop_drop] at hstep
  exact ev_f rfl (ev_pure ⟨_, by omega, _, rfl, hle, hp, hstep⟩)
theorem hex_at : ∀ n : Fin 16, byteAt st15 (n.val : Int) = ((hexd n.val).toNat : Int) := by decide +kernel
theorem app3 {α : Type} (a : List α) (x : α) (b c : List α) : a ++ (x :: b ++ c) = (a ++ [x] ++ b) ++ c := by simp
theorem quoteGG (s : List UInt8) (hs : s.length < 2 ^ 37) (hr : Runes os) : Gives (tabsOf os) (XX os) 4 26 [.string (BA s)] (.string (BA (word s))) := by
 intro A l Q hp H
 refine t26 (d := 3) (BA s, ()) fun n hn => ?_
 unfold f26
 refine ev_new hp fun b0 A1 hp => ?_
 have hp := (hp.vec0 5 1 false).front 1 rfl
 refine (writeByteG (bs := []) 34 hp (.inl rfl) (by show 0 < 2 ^ 40; omega) fun A2 a2 hp => ⟨_, rfl, ?_⟩).mono (show 2 ≤ 3 by decide) |>.use hn
 refine ev_iter hp fun b2 A3 hp => ?_
 unfold f26c3
 refine ev_bind (ev_LL (fun m _ A' => ∃ pos a bs, m = s.length - pos ∧ pos ≤ s.length ∧ Hp (tabsOf os) A' (.iter b2 (BA s) pos :: bldr b0 (some ⟨b0, 0, none⟩) a bs l) ∧ 34 :: quoteG s = bs ++ quoteG (s.drop pos) ∧ bs.length ≤ 1 + 4 * pos ∧ 1 ≤ bs.length) (m := s.length)
  ⟨0, a2, [34], rfl, by omega, hp, rfl, by simp, by simp⟩ (by omega) ?_)
 rintro m _ A4 ⟨pos, a, bs, rfl, hpos, hp, hw, hlb, hl1⟩
 refine ev_next 0 hp rfl (fun hge => ?_) fun hlt A5 hp => ?_
 ·refine ev_pure ?_
  rw [BA_size] at hge
  rw [List.drop_of_length_le hge, quoteG, List.append_nil] at hw
  refine (writeByteG 34 hp.tail (.inr rfl) (by omega) fun A6 a6 hp => ⟨_, rfl, ?_⟩).mono (show 2 ≤ 3 by decide) |>.use hn
  refine (stringG hp (by simp; omega) (.inr (by simp)) fun A7 hp => ⟨_, rfl, ev_pure ?_⟩).mono (show 1 ≤ 3 by decide) |>.use hn
  have e : bs ++ [34] = word s := by rw [← hw, quoteG_eq s.length s (Nat.le_refl _)]; rfl
  rw [e]
  exact H A7 hp
 rw [BA_size] at hlt
 rw [decode_BA] at hp ⊢
 have hle := rune_len_drop hlt
 obtain ⟨c, t, e⟩ := drop_cons hlt
 have hpos2 := rune_pos (s.drop pos)
 simp only [upB_nat, BA_size]
 refine ev_guard (decide_eq_true (by omega)) ?_
 rw [Int.toNat_natCast, BA_till]
 refine ((decodeG (l := s.drop pos) (by rw [e]; simp) hr).mono (show 2 ≤ 3 by decide)).use hn hp rfl fun A6 hp => ?_
 have hq : quoteG (s.drop pos) = (if (rune (c :: t)).1 < 32 ∨ (rune (c :: t)).1 = 127 ∨ whole ((c :: t).take (rune (c :: t)).2) = false then [92, 120, hexd (c.toNat / 16), hexd (c.toNat % 16)]
   else if (rune (c :: t)).1 = 34 ∨ (rune (c :: t)).1 = 92 then 92 :: (Utf8.encode (((rune (c :: t)).1 : Nat) : Int)).data.toList
   else (Utf8.encode (((rune (c :: t)).1 : Nat) : Int)).data.toList) ++ quoteG (s.drop (pos + (rune (c :: t)).2)) := by
  rw [e, quoteG, ← e, List.drop_drop]
 rw [← e] at hq
 refine ev_join (fun _ A' => ∃ a' bs', Hp (tabsOf os) A' (.iter b2 (BA s) (pos + (rune (s.drop pos)).2) :: bldr b0 (some ⟨b0, 0, none⟩) a' bs' l) ∧ 34 :: quoteG s = bs' ++ quoteG (s.drop (pos + (rune (s.drop pos)).2)) ∧ bs'.length ≤ 1 + 4 * (pos + (rune (s.drop pos)).2) ∧ 1 ≤ bs'.length) ?_ fun go hgo => ?_
 ·rintro _ A7 ⟨a', bs', g1, g2, g3, g4⟩
  exact ev_pure ⟨_, by omega, _, _, _, rfl, hle, g1, g2, g3, g4⟩
 have ht2 : ((s.drop pos).take (rune (s.drop pos)).2).length ≤ 2 ^ 37 := by rw [List.length_take, List.length_drop]; omega
 generalize hR : rune (s.drop pos) = R at *
 obtain ⟨r, m⟩ := R
 simp only at *
 unfold f26c2
 refine ev_join (fun j A' => Hp (tabsOf os) A' (.iter b2 (BA s) (pos + m) :: bldr b0 (some ⟨b0, 0, none⟩) a bs l) ∧ j = (decide (r < 32 ∨ r = 127 ∨ whole ((s.drop pos).take m) = false), ())) ?_ fun go2 hgo2 => ?_
 ·rintro _ A7 ⟨hp, rfl⟩
  simp only
  refine ev_ite (fun h => ?_) fun h => ?_
  ·rw [decide_eq_true_eq] at h
   rw [if_pos h] at hq
   have hc : byteAt (BA s) (pos : Int) = (c.toNat : Int) := by
    rw [at_byteAt]
    have : at' s pos = at' (s.drop pos) 0 := by unfold at'; rw [List.getElem?_drop, Nat.add_zero]
    rw [this, e]; rfl
   have hcl : c.toNat < 256 := c.toNat_lt
   simp only [hc, inB_nat, BA_size]
   refine ev_guard (decide_eq_true hlt) (ev_guard (by decide) ?_)
   have e1 : (c.toNat : Int).fdiv (2 ^ min (Int.toNat 4) IntKind.u8.bits) = ((c.toNat / 16 : Nat) : Int) := shr c.toNat 4
   simp only [e1]
   refine ev_guard (by rw [inB_nat]; exact decide_eq_true (by show c.toNat / 16 < 16; omega)) ?_
   unfold f26c0
   have e2 : andW .u8 (c.toNat : Int) 15 = ((c.toNat % 16 : Nat) : Int) := by
    rw [show (15 : Int) = ((15 : Nat) : Int) from rfl, andW_nat .u8 (topU8 hcl) (topU8 (by decide)), show (15 : Nat) = 2 ^ 4 - 1 from rfl, and_low]
   have h1 := hex_at ⟨c.toNat / 16, by omega⟩
   have h2 := hex_at ⟨c.toNat % 16, by omega⟩
   simp only at h1 h2
   simp only [hc, inB_nat, BA_size, e2, h1, h2]
   refine ev_guard (decide_eq_true hlt) (ev_guard (decide_eq_true (by show c.toNat % 16 < 16; omega)) ?_)
   refine ev_new hp fun b19 A8 hp => ?_
   refine ev_toStr_row 0 (bs := [hexd (c.toNat / 16), hexd (c.toNat % 16)]) hp rfl rfl ?_
   refine ev_guard (Nat.ble_eq_true_of_le (Nat.le_trans (show _ ≤ 4 from Nat.le_refl 4) (by omega))) ?_
   have e3 : st16 ++ BA [hexd (c.toNat / 16), hexd (c.toNat % 16)] = BA [92, 120, hexd (c.toNat / 16), hexd (c.toNat % 16)] := BA_append [92, 120] _
   rw [e3]
   refine (writeStringG [92, 120, hexd (c.toNat / 16), hexd (c.toNat % 16)] (hp.tail.front 1 rfl |>.front 2 rfl |>.front 1 rfl) (.inr rfl) (by simp; omega) fun A9 a9 hp => ⟨(_, _, ()), rfl, ?_⟩).mono (show 2 ≤ 3 by decide) |>.use hn
   exact hgo _ _ ⟨a9, _, hp.front 2 rfl, by rw [hw, hq, List.append_assoc], by simp; omega, by simp⟩
  ·rw [decide_eq_false_iff_not] at h
   rw [if_neg h] at hq
   have hne : s.drop pos ≠ [] := by rw [e]; simp
   have hbad : bad (s.drop pos) = false := by
    have := whole_own hne
    rw [hR] at this
    cases hb : bad (s.drop pos) with
    | false => rfl
    | true => rw [hb] at this; exact absurd (.inr (.inr this)) h
   have henc := encode_rune hne hbad
   rw [hR] at henc
   have hv : Utf8.valid (r : Int) = true := by
    have := rune_valid hbad
    rwa [hR] at this
   have hel : (Utf8.encode (r : Int)).data.toList.length ≤ m := by rw [henc, List.length_take]; omega
   unfold f26c1
   simp only [M.join]
   have fr := hp.front 1 rfl |>.front 2 rfl |>.front 1 rfl
   by_cases h12 : r = 34 ∨ r = 92
   ·rw [if_pos h12] at hq
    refine ev_or (by rw [show (34 : Int) = ((34 : Nat) : Int) from rfl, show (92 : Int) = ((92 : Nat) : Int) from rfl, eqB_nat, eqB_nat, Bool.or_eq_true, decide_eq_true_eq, decide_eq_true_eq]; exact h12) ?_
    refine (writeByteG 92 fr (.inr rfl) (by omega) fun A8 a8 hp => ⟨_, rfl, ?_⟩).mono (show 2 ≤ 3 by decide) |>.use hn
    refine (writeRuneG hp (.inr rfl) hv (by simp only [List.length_append, List.length_cons, List.length_nil]; omega) fun A9 a9 v hp => ⟨(_, _, ()), rfl, ?_⟩).use hn
    exact hgo _ _ ⟨a9, _, hp.front 2 rfl, hw.trans ((congrArg (bs ++ ·) hq).trans (app3 _ _ _ _)), by simp only [List.length_append, List.length_cons, List.length_nil]; omega, by simp only [List.length_append, List.length_cons, List.length_nil]; omega⟩
   ·rw [if_neg h12] at hq
    refine ev_f (by rw [show (34 : Int) = ((34 : Nat) : Int) from rfl, eqB_nat, decide_eq_false_iff_not]; omega) (ev_f (by rw [show (92 : Int) = ((92 : Nat) : Int) from rfl, eqB_nat, decide_eq_false_iff_not]; omega) ?_)
    refine (writeRuneG fr (.inr rfl) hv (by omega) fun A9 a9 v hp => ⟨(_, _, ()), rfl, ?_⟩).use hn
    exact hgo _ _ ⟨a9, _, hp.front 2 rfl, by rw [hw, hq, List.append_assoc], by rw [List.length_append]; omega, by rw [List.length_append]; omega⟩
 ·have hrune : ∀ A8 q, Hp (tabsOf os) A8 (.iter b2 (BA s) (pos + m) :: bldr b0 (some ⟨b0, 0, none⟩) a bs l) → q = decide (r < 32 ∨ r = 127 ∨ whole ((s.drop pos).take m) = false) → Ev (go2 (q, ())) A8 _ := fun A8 q h8 hq8 => hgo2 _ _ ⟨h8, by rw [hq8]⟩
  refine ev_ite (fun h1 => ?_) fun h1 => ?_
  ·rw [show (32 : Int) = ((32 : Nat) : Int) from rfl, ltB_nat, decide_eq_true_eq] at h1
   exact hrune A6 true hp (decide_eq_true (.inl h1)).symm
  rw [show (32 : Int) = ((32 : Nat) : Int) from rfl, ltB_nat, decide_eq_false_iff_not] at h1
  refine ev_ite (fun h2 => ?_) fun h2 => ?_
  ·rw [show (127 : Int) = ((127 : Nat) : Int) from rfl, eqB_nat, decide_eq_true_eq] at h2
   exact hrune A6 true hp (decide_eq_true (.inr (.inl h2))).symm
  rw [show (127 : Int) = ((127 : Nat) : Int) from rfl, eqB_nat, decide_eq_false_iff_not] at h2
  rw [addW_i64 (by omega)]
  simp only [upB_nat, BA_size, Int.toNat_natCast, BA_extract]
  refine ev_guard (decide_eq_true hle) (ev_guard (decide_eq_true (by omega)) ?_)
  rw [List.drop_take, show pos + m - pos = m by omega]
  refine (wholeG ((s.drop pos).take m) (by omega) hr).use hn hp rfl fun A7 hp => ?_
  refine hrune A7 _ hp ?_
  cases whole ((s.drop pos).take m) <;> simp [h1, h2]
end
end Go.Proofs.YtlcigkdflbfdgaaGreatDoor.sg
namespace Go.Proofs.YtlcigkdflbfdgaaGreatDoor.sg
set_option linter.unusedVariables false
open Go Go.Eng Go.Sh
section
variable {os : List (Nat × AObj)} {A : AW} {Q : Value → AW → Prop} {l : List Thing}
/-- Where a word ends. -/
def endN (s : List UInt8) : Option Nat := match s with
 | [] => none
 | c :: t => if c = 34 then scanE true (c :: t) else none
def endV : Option Nat → Value
 | some k => .int .i64 (k : Int)
 | none => .int .i64 (-1)
theorem take_one (s : List UInt8) : (s.take [(34 : UInt8)].length = [34]) ↔ ∃ t, s = 34 :: t := by
 cases s with
 | nil => simp
 | cons c t => simp
theorem endG (s : List UInt8) (hs : s.length < 2 ^ 38) : Gives (tabsOf os) (XX os) 3 58 [.string (BA s)] (endV (endN s)) := by
 intro A l Q hp H
 refine t58 (d := 2) (BA s, ()) fun n hn => ?_
 unfold f58
 rw [show st48 = BA [34] from rfl]
 refine (prefixG s [34]).use hn hp rfl fun A1 hp => ?_
 by_cases h34 : s.take [(34 : UInt8)].length = [34]
 ·obtain ⟨t, rfl⟩ := (take_one s).1 h34
  rw [decide_eq_true h34]
  refine ev_f rfl (ev_iter hp fun b A2 hp => ?_)
  unfold f58c0
  have hend : endN (34 :: t) = scanE true (34 :: t) := by
   show (if (34 : UInt8) = 34 then scanE true (34 :: t) else none) = _
   rw [if_pos rfl]
  rw [hend] at H
  generalize 34 :: t = s at *
  refine ev_bind (ev_LL (fun m st A' => ∃ pos, m = s.length - pos ∧ pos ≤ s.length ∧ Hp (tabsOf os) A' (.iter b (BA s) pos :: l) ∧ scanE true s = (scanE st.1 (s.drop pos)).map (· + pos)) (m := s.length)
   ⟨0, rfl, by omega, hp, by cases h : scanE true s <;> simp [h]⟩ (by omega) ?_)
  rintro m st A3 ⟨pos, rfl, hpos, hp, hw⟩
  refine ev_next 0 hp rfl (fun hge => ?_) fun hlt A4 hp => ?_
  ·rw [BA_size] at hge
   rw [List.drop_of_length_le hge, scanE_nil] at hw
   rw [hw] at H
   exact ev_pure (ev_pure (H A3 hp.tail))
  rw [BA_size] at hlt
  rw [decode_BA] at hp ⊢
  have hle := rune_len_drop hlt
  obtain ⟨c, t', e⟩ := drop_cons hlt
  have hpos2 := rune_pos (s.drop pos)
  rw [e, scanE_cons, ← e, List.drop_drop] at hw
  have next : ∀ m', scanE true s = ((scanE m' (s.drop (pos + (rune (s.drop pos)).2))).map (· + (rune (s.drop pos)).2)).map (· + pos) → scanE true s = (scanE m' (s.drop (pos + (rune (s.drop pos)).2))).map (· + (pos + (rune (s.drop pos)).2)) := fun m' h => by
   rw [h, Option.map_map]
   congr 1
   funext x
   show x + _ + pos = _
   omega
  generalize hR : rune (s.drop pos) = R at *
  obtain ⟨r, m⟩ := R
  simp only at *
  simp only [M.join]
  refine ev_ite (fun hm => ?_) fun hm => ?_
  ·rw [if_pos hm] at hw
   exact ev_pure ⟨_, by omega, _, rfl, hle, hp, next _ hw⟩
  rw [if_neg (by rw [hm]; simp)] at hw
  refine ev_ite (fun h1 => ?_) fun h1 => ?_
  ·rw [show (92 : Int) = ((92 : Nat) : Int) from rfl, eqB_nat, decide_eq_true_eq] at h1
   rw [if_pos h1] at hw
   exact ev_pure ⟨_, by omega, _, rfl, hle, hp, next _ hw⟩
  rw [show (92 : Int) = ((92 : Nat) : Int) from rfl, eqB_nat, decide_eq_false_iff_not] at h1
  rw [if_neg h1] at hw
  refine ev_ite (fun h2 => ?_) fun h2 => ?_
  ·rw [show (34 : Int) = ((34 : Nat) : Int) from rfl, eqB_nat, decide_eq_true_eq] at h2
   rw [if_pos h2] at hw
   rw [hw] at H
   refine ev_pure (ev_pure ?_)
   rw [show (1 : Int) = ((1 : Nat) : Int) from rfl, addW_i64 (by omega), Nat.add_comm]
   exact H A4 hp.tail
  ·rw [show (34 : Int) = ((34 : Nat) : Int) from rfl, eqB_nat, decide_eq_false_iff_not] at h2
   rw [if_neg h2] at hw
   exact ev_pure ⟨_, by omega, _, rfl, hle, hp, by rw [hm]; exact next _ hw⟩
 ·rw [decide_eq_false h34]
  have : endN s = none := by
   unfold endN
   cases s with
   | nil => rfl
   | cons c t =>
    simp only
    rw [if_neg fun e => h34 ((take_one _).2 ⟨t, by rw [e]⟩)]
  rw [this] at H
  exact ev_t rfl (ev_pure (H A1 hp))
/-- What Unquote hands back. -/
def unqV : Option (List UInt8 × List UInt8) → Value
 | some (b, r) => .tuple ⟨[.string (BA b), .string (BA r), .bool true]⟩
 | none => .tuple ⟨[.string (BA []), .string (BA []), .bool false]⟩
theorem unqG_eq (s : List UInt8) : unqG s = (endN s).bind fun to => (readG ((s.take (to - 1)).drop 1)).bind fun b => if word b = s.take to then some (b, s.drop to) else none := by
 unfold unqG endN
 cases s with
 | nil => rfl
 | cons c t =>
  simp only
  by_cases hc : c = 34
  ·rw [if_pos hc, if_pos hc]
   cases scanE true (c :: t) with
   | none => rfl
   | some to =>
    simp only [Option.bind_some]
    cases readG (((c :: t).take (to - 1)).drop 1) <;> rfl
  ·rw [if_neg hc, if_neg hc]; rfl
theorem hex_of : ∀ c : Fin 256, Lib.indexByte [48, 49, 50, 51, 52, 53, 54, 55, 56, 57, 97, 98, 99, 100, 101, 102] (UInt8.ofNat c.val) = (match hexv (UInt8.ofNat c.val) with | some v => (v : Int) | none => -1) := by decide +kernel
theorem hex_ix (c : UInt8) : Lib.indexByte [48, 49, 50, 51, 52, 53, 54, 55, 56, 57, 97, 98, 99, 100, 101, 102] c = (match hexv c with | some v => (v : Int) | none => -1) := by
 have := hex_of ⟨c.toNat, c.toNat_lt⟩
 simpa using this
theorem hexv_lt {c : UInt8} {v : Nat} (h : hexv c = some v) : v < 16 := by
 unfold hexv at h
 split at h
 ·obtain rfl := Option.some.inj h; omega
 ·split at h
  ·obtain rfl := Option.some.inj h; omega
  ·cases h
theorem dig_lit : st15 = BA [48, 49, 50, 51, 52, 53, 54, 55, 56, 57, 97, 98, 99, 100, 101, 102] := rfl
theorem unquoteG (s : List UInt8) (hs : s.length < 2 ^ 36) (hr : Runes os) : Gives (tabsOf os) (XX os) 5 25 [.string (BA s)] (unqV (unqG s)) := by
 intro A l Q hp H
 refine t25 (d := 4) (BA s, ()) fun n hn => ?_
 unfold f25
 refine ev_call (endG s (by omega) A l _ hp (fun A1 hp => ?_) n (by omega))
 rw [unqG_eq] at H
 cases he : endN s with
 | none =>
  rw [he] at H
  exact ⟨_, rfl, ev_t (by decide) (ev_pure (H A1 hp))⟩
 | some to =>
  rw [he] at H
  have hto : 2 ≤ to ∧ to ≤ s.length := by
   unfold endN at he
   cases s with
   | nil => cases he
   | cons c t =>
    simp only at he
    split at he
    ·exact scanE_two he
    ·cases he
  refine ⟨(to : Int), rfl, ?_⟩
  refine ev_f (by rw [show (0 : Int) = ((0 : Nat) : Int) from rfl, ltB_nat]; exact decide_eq_false (by omega)) ?_
  simp only [upB_nat, BA_size, Int.toNat_natCast, BA_extract, List.drop_zero]
  refine ev_guard (decide_eq_true hto.2) ?_
  rw [subW_1 (by omega) (by omega)]
  simp only [upB_nat, upB_1, Int.toNat_natCast, List.length_take]
  refine ev_guard (decide_eq_true (by omega)) (ev_guard (decide_eq_true (by omega)) ?_)
  rw [show Int.toNat 1 = 1 from rfl, List.take_take, show min (to - 1) to = to - 1 by omega]
  unfold f25c3
  simp only [Option.bind_some] at H
  generalize hin : (s.take (to - 1)).drop 1 = ins at *
  have hil : ins.length < 2 ^ 36 := by rw [← hin, List.length_drop, List.length_take]; omega
  refine ev_bind (ev_LL (fun m st A' => ∃ bs rs, st.2.1 = BA rs ∧ m = rs.length ∧ rs.length + bs.length ≤ ins.length ∧ Hp (tabsOf os) A' (.vec 5 1 false st.1.1 st.1.2.1 st.1.2.2 (u8s bs) :: l) ∧ readG ins = (readG rs).map (bs ++ ·)) (m := ins.length)
   ⟨[], ins, rfl, rfl, by simp, hp.vec0 5 1 false, by cases readG ins <;> simp⟩ (by omega) ?_)
  rintro m ⟨sl, rest, _⟩ A3 ⟨bs, rs, hrs, rfl, hlen, hp, hw⟩
  simp only at hrs hp
  subst hrs
  simp only
  have hsl : sl.2.1 = bs.length := by
   have := (hp.own 0 _ rfl).1
   rw [u8s_length] at this
   omega
  have app : ∀ {ρ' : Type} {Q' : ρ' → AW → Prop} {A4 : AW} {K : Option Addr → Nat → Nat → M ρ'} (x : UInt8) (v : Int), v = (x.toNat : Int) → Hp (tabsOf os) A4 (.vec 5 1 false sl.1 sl.2.1 sl.2.2 (u8s bs) :: l) →
    (∀ A5 a n, Hp (tabsOf os) A5 (.vec 5 1 false a n n (u8s (bs ++ [x])) :: l) → Ev (K a n n) A5 Q') → Ev (M.new (.cells (Row.ofList [(.int .u8 v)]) 5 false (0, 0) false) fun b => M.append 5 1 1 sl.1 sl.2.1 sl.2.2 (.slice (some (Addr.mk b 0 none)) 1 1) K) A4 Q' := fun {_ _ A4 K} x v hv hp HK => by
   subst hv
   refine ev_new hp fun b A5 hp => ?_
   refine ev_append_row 1 0 hp rfl rfl rfl (Nat.le_refl _) (Nat.le_refl _) (by rw [hsl]; omega) rfl fun A6 a' hp => ?_
   exact HK A6 a' _ (by rw [u8s_append]; exact hp.tail)
  refine ev_ite (fun hne => ?_) fun hne => ?_
  ·rw [show st0 = BA [] from rfl, BA_seq] at hne
   have hne : rs ≠ [] := by simpa using hne
   refine ev_join (fun j A' => ∃ bs' k, j.2.1 = ((k : Nat) : Int) ∧ 1 ≤ k ∧ k ≤ rs.length ∧ Hp (tabsOf os) A' (.vec 5 1 false j.1.1 j.1.2.1 j.1.2.2 (u8s bs') :: l) ∧ readG ins = (readG (rs.drop k)).map (bs' ++ ·) ∧ rs.length - k + bs'.length ≤ ins.length) ?_ fun go hgo => ?_
   ·rintro ⟨sl', k, _⟩ A4 ⟨bs', k', hk, g1, g2, g3, g4, g5⟩
    simp only at hk g3
    subst hk
    simp only [upB_nat, BA_size, Int.toNat_natCast, BA_till]
    exact ev_guard (decide_eq_true g2) (ev_pure ⟨_, by omega, bs', rs.drop k', rfl, (List.length_drop).symm, by rw [List.length_drop]; omega, g3, g4⟩)
   rw [show st16 = BA [92, 120] from rfl]
   simp only [M.join]
   refine ((prefixG rs [92, 120]).mono (show 2 ≤ 4 by decide)).use hn hp rfl fun A4 hp => ?_
   have one : ∀ (x : UInt8) (t : List UInt8) (k : Nat), 1 ≤ k → k ≤ rs.length → rs.drop k = t → readG rs = (readG t).map (x :: ·) → readG ins = (readG (rs.drop k)).map ((bs ++ [x]) ++ ·) := fun x t k _ _ h1 h2 => by
    rw [hw, h2, h1, Option.map_map]
    congr 1
    funext z
    simp
   obtain ⟨c, t, rfl⟩ : ∃ c t, rs = c :: t := by
    cases rs with
    | nil => exact absurd rfl hne
    | cons c t => exact ⟨c, t, rfl⟩
   by_cases hesc : c = 92 ∧ ∃ a b t2, t = 120 :: a :: b :: t2
   ·obtain ⟨rfl, a, b, t2, rfl⟩ := hesc
    refine ev_t (by simp) ?_
    unfold f25c2
    simp only [inB_2, inB_3, BA_size]
    refine ev_t (by rw [leB_lit']; simp) (ev_guard (by simp) (ev_guard (by simp) ?_))
    have ea : byteAt (BA (92 :: 120 :: a :: b :: t2)) 2 = (a.toNat : Int) := rfl
    have eb : byteAt (BA (92 :: 120 :: a :: b :: t2)) 3 = (b.toNat : Int) := rfl
    rw [ea, eb, dig_lit]
    refine ((indexG _ a).mono (show 2 ≤ 4 by decide)).use hn hp rfl fun A5 hp => ?_
    refine ((indexG _ b).mono (show 2 ≤ 4 by decide)).use hn hp rfl fun A6 hp => ?_
    rw [hex_ix, hex_ix]
    unfold f25c0
    simp only [M.join]
    have bad : hexv a = none ∨ hexv b = none → unqV ((readG ins).bind fun b => if word b = s.take to then some (b, s.drop to) else none) = unqV none := fun h => by
     rw [hw, readG_bad a b t2 h]; rfl
    cases ha : hexv a with
    | none =>
     rw [bad (.inl ha)] at H
     exact ev_t (by simp only; decide) (ev_t rfl (ev_pure (ev_pure (H A6 hp.tail))))
    | some u =>
     have hu := hexv_lt ha
     refine ev_f (by simp only; exact ltB_0 _) ?_
     cases hb : hexv b with
     | none =>
      rw [bad (.inr hb)] at H
      exact ev_t (by simp only; decide) (ev_pure (ev_pure (H A6 hp.tail)))
     | some v =>
      have hv := hexv_lt hb
      refine ev_f (by simp only; exact ltB_0 _) (ev_guard (by decide) ?_)
      simp only
      refine app (UInt8.ofNat (16 * u + v)) _ ?_ hp fun A7 a' n' hp => ?_
      ·rw [show IntKind.i64.wrap ((u : Int) * 2 ^ min (Int.toNat 4) IntKind.i64.bits) = ((u * 2 ^ 4 : Nat) : Int) from wrap_nat (by show u * 2 ^ 4 ≤ 9223372036854775807; omega),
        orW_nat .i64 (by show u * 2 ^ 4 ≤ 9223372036854775807; omega) (by show v ≤ 9223372036854775807; omega), or_low (by omega), wrapU8, UInt8.toNat_ofNat']
       exact congrArg _ (by omega)
      ·refine hgo _ A7 ⟨bs ++ [UInt8.ofNat (16 * u + v)], 4, rfl, by decide, by simp, hp, one _ t2 4 (by decide) (by simp) rfl (readG_hex a b t2 ha hb), ?_⟩
       simp only [List.length_append, List.length_cons, List.length_nil] at hlen ⊢
       omega
   ·refine ev_ite (fun hpre => ?_) fun hpre => ?_
    all_goals
     unfold f25c2
     refine ev_f ?_ ?_
    case refine_1.refine_1 =>
     simp only
     rw [leB_lit']
     refine decide_eq_false fun h4 => hesc ?_
     rw [decide_eq_true_eq] at hpre
     match t, h4, hpre with
     | [], _, h => simp at h
     | [x], h4, _ => simp [BA_size] at h4
     | [x, y], h4, _ => simp [BA_size] at h4
     | x :: a :: b :: t2, _, h =>
      simp at h
      exact ⟨h.1, a, b, t2, by rw [h.2]⟩
    case refine_2.refine_1 => rfl
    all_goals
     simp only [M.join, inB_0, BA_size]
     refine ev_guard (by simp) ?_
     have e0 : byteAt (BA (c :: t)) 0 = (c.toNat : Int) := rfl
     rw [e0, eqB_lit]
     refine ev_ite (fun hc => ?_) fun hc => ?_
     ·rw [decide_eq_true_eq] at hc
      obtain rfl : c = 92 := UInt8.toNat_inj.1 hc
      unfold f25c1
      simp only [inB_0, inB_1, BA_size]
      refine ev_ite (fun h2 => ?_) fun h2 => ?_
      ·rw [leB_lit', decide_eq_true_eq] at h2
       obtain ⟨x, t', rfl⟩ : ∃ x t', t = x :: t' := by
        cases t with
        | nil => simp at h2
        | cons x t' => exact ⟨x, t', rfl⟩
       refine ev_guard (by simp) ?_
       refine app x _ rfl hp fun A7 a' n' hp => hgo _ A7 ⟨bs ++ [x], 2, rfl, by decide, by simp, hp, one x t' 2 (by decide) (by simp) rfl (readG_short x t' fun ⟨e1, e2⟩ => hesc ⟨rfl, ?_⟩), ?_⟩
       ·match t', e2 with
        | [], h => simp at h
        | [_], h => simp at h
        | a :: b :: t2, _ => exact ⟨a, b, t2, by rw [e1]⟩
       ·simp only [List.length_append, List.length_cons, List.length_nil] at hlen ⊢
        omega
      ·rw [leB_lit', decide_eq_false_iff_not] at h2
       obtain rfl : t = [] := by
        cases t with
        | nil => rfl
        | cons x t' => simp at h2
       refine ev_guard (by simp) ?_
       refine app 92 _ rfl hp fun A7 a' n' hp => hgo _ A7 ⟨bs ++ [92], 1, rfl, by decide, by simp, hp, one 92 [] 1 (by decide) (by simp) rfl (by rw [readG_back, readG_nil]; rfl), ?_⟩
       simp only [List.length_append, List.length_cons, List.length_nil] at hlen ⊢
       omega
     ·rw [decide_eq_false_iff_not] at hc
      have hc : c ≠ 92 := fun e => hc (by rw [e]; rfl)
      unfold f25c1
      simp only [inB_0, BA_size]
      refine ev_f rfl (ev_guard (by simp) ?_)
      refine app c _ rfl hp fun A7 a' n' hp => hgo _ A7 ⟨bs ++ [c], 1, rfl, by decide, by simp, hp, one c t 1 (by decide) (by simp) rfl (readG_cons c t hc), ?_⟩
      simp only [List.length_append, List.length_cons, List.length_nil] at hlen ⊢
      omega
  ·rw [show st0 = BA [] from rfl, BA_seq] at hne
   obtain rfl : rs = [] := by simpa using hne
   rw [readG_nil] at hw
   rw [hw] at H
   simp only [Option.map_some, List.append_nil, Option.bind_some] at H
   refine ev_pure ?_
   simp only [Round, M.sum]
   refine ev_toStr 0 hp rfl ?_
   refine (quoteGG bs (by omega) hr).use hn hp rfl fun A4 hp => ?_
   rw [BA_seq]
   by_cases hwd : word bs = s.take to
   ·rw [if_pos hwd] at H
    refine ev_f (by rw [decide_eq_true hwd]; rfl) (ev_guard (by rw [upB_nat, BA_size]; exact decide_eq_true hto.2) ?_)
    refine ev_toStr 0 hp rfl (ev_pure ?_)
    rw [Int.toNat_natCast, BA_from]
    exact H A4 hp.tail
   ·rw [if_neg hwd] at H
    exact ev_t (by rw [decide_eq_false hwd]; rfl) (ev_pure (H A4 hp.tail))
end
end Go.Proofs.YtlcigkdflbfdgaaGreatDoor.sg
namespace Go.Proofs.YtlcigkdflbfdgaaGreatDoor.sg
set_option linter.unusedVariables false
open Go Go.Eng Go.Sh
section
variable {os : List (Nat × AObj)} {A : AW} {Q : Value → AW → Prop} {l : List Thing}
def rnV (p : Nat × Nat × Bool) : Value := .tuple ⟨[.int .i32 (p.1 : Int), .int .i64 (p.2.1 : Int), .bool p.2.2]⟩
theorem accR_lt (s : List UInt8) (r k : Nat) (hr : r < 64) (hk : ∀ j, j < k → at' s (j + 1) < 192) : accR s r k < 64 ^ (k + 1) := by
 induction k with
 | zero => rw [accR_zero]; simpa using hr
 | succ k ih =>
  have := ih fun j hj => hk j (by omega)
  have h2 := hk k (by omega)
  rw [accR_succ, Nat.pow_succ]
  omega
theorem refTailG (s : List UInt8) (p : Nat × Nat × Nat) (hp1 : p.1 = 2 ∨ p.1 = 3 ∨ p.1 = 4) (hlen : p.1 ≤ s.length) (hr : p.2.2 < 64) (hp : Hp (tabsOf os) A l) (H : ∀ A', Hp (tabsOf os) A' l → Q (rnV (refTail s p)) A') (n : Nat) :
  Ev (f71c1 (XX os n) LL (BA s, ()) ((p.1 : Int), (p.2.1 : Int), (p.2.2 : Int), ())) A Q := by
 obtain ⟨m, least, r0⟩ := p
 simp only at *
 unfold f71c1
 have ht : refTail s (m, least, r0) = if (List.range (m - 1)).all (fun i => okB' s (i + 1)) then
   if accR s r0 (m - 1) < least ∨ accR s r0 (m - 1) > 0x10ffff ∨ (accR s r0 (m - 1) ≥ 0xd800 ∧ accR s r0 (m - 1) < 0xe000) then (0xfffd, 1, true) else (accR s r0 (m - 1), m, false)
   else (0xfffd, 1, true) := by
  unfold refTail
  rw [if_neg (by simp only; omega)]
 rw [ht] at H
 refine ev_bind (ev_LL (fun μ st A' => ∃ i, 1 ≤ i ∧ i ≤ m ∧ μ = m - i ∧ st = (((accR s r0 (i - 1) : Nat) : Int), ((i : Nat) : Int), ()) ∧ Hp (tabsOf os) A' l ∧ ∀ j, j < i - 1 → okB' s (j + 1) = true) (m := m - 1) ⟨1, by decide, by omega, rfl, rfl, hp, fun j hj => by omega⟩ (by omega) ?_)
 rintro μ st A1 ⟨i, hi1, him, rfl, rfl, hp, hok⟩
 unfold f71c0
 simp only [ltB_nat, M.join, inB_nat, BA_size]
 refine ev_ite (fun h => ?_) fun h => ?_
 ·rw [decide_eq_true_eq] at h
  have hb := at_lt s i
  rw [at_byteAt]
  have bad : okB' s i = false → Q (rnV (0xfffd, 1, true)) A1 := fun hbad => by
   have hall : (List.range (m - 1)).all (fun i => okB' s (i + 1)) = false := by
    rw [List.all_eq_false]
    exact ⟨i - 1, by simp; omega, by rw [show i - 1 + 1 = i by omega, hbad]; simp⟩
   rw [hall] at H
   exact H A1 hp
  refine ev_guard (decide_eq_true (by omega)) ?_
  rw [ltB_lit]
  refine ev_ite (fun h1 => ?_) fun h1 => ?_
  ·rw [decide_eq_true_eq] at h1
   exact ev_t rfl (ev_pure (ev_pure (bad (by unfold okB'; rw [decide_eq_true h1]; rfl))))
  rw [decide_eq_false_iff_not] at h1
  refine ev_guard (decide_eq_true (by omega)) ?_
  rw [ltB_lit']
  refine ev_ite (fun h2 => ?_) fun h2 => ?_
  ·rw [decide_eq_true_eq] at h2
   exact ev_pure (ev_pure (bad (by unfold okB'; rw [decide_eq_true (show at' s i > 0xbf from h2)]; simp)))
  rw [decide_eq_false_iff_not] at h2
  have hoki : okB' s i = true := by unfold okB'; rw [decide_eq_false h1, decide_eq_false (show ¬ at' s i > 0xbf from h2)]; rfl
  have hlt := accR_lt s r0 (i - 1) hr fun j hj => by
   have := hok j hj
   unfold okB' at this
   simp only [Bool.not_eq_true', Bool.or_eq_false_iff, decide_eq_false_iff_not] at this
   omega
  have hpow : 64 ^ (i - 1 + 1) ≤ 64 ^ 4 := Nat.pow_le_pow_right (by decide) (by omega)
  have hp4 : (64 : Nat) ^ 4 = 16777216 := by decide
  refine ev_guard (decide_eq_true (by omega)) (ev_pure ⟨m - (i + 1), by omega, i + 1, by omega, by omega, rfl, ?_, hp, fun j hj => ?_⟩)
  ·rw [mulW_lit (by omega), wrap_i64n (by omega), addW_i64 (by omega), subW_lit (by omega) (by omega), addW_1 (by omega), show i + 1 - 1 = (i - 1) + 1 by omega, accR_succ, show i - 1 + 1 = i by omega]
  ·by_cases e : j = i - 1
   ·rw [e, show i - 1 + 1 = i by omega]; exact hoki
   ·exact hok j (by omega)
 ·rw [decide_eq_false_iff_not] at h
  obtain rfl : i = m := by omega
  have hall : (List.range (i - 1)).all (fun i => okB' s (i + 1)) = true := by
   rw [List.all_eq_true]
   intro j hj
   exact hok j (by simpa using hj)
  rw [hall, if_pos rfl] at H
  refine ev_pure ?_
  simp only [Round, M.sum]
  have hlt := accR_lt s r0 (i - 1) hr fun j hj => by
   have := hok j hj
   unfold okB' at this
   simp only [Bool.not_eq_true', Bool.or_eq_false_iff, decide_eq_false_iff_not] at this
   omega
  have hpow : 64 ^ (i - 1 + 1) ≤ 64 ^ 4 := Nat.pow_le_pow_right (by decide) (by omega)
  have hp4 : (64 : Nat) ^ 4 = 16777216 := by decide
  generalize accR s r0 (i - 1) = r at *
  rw [ltB_nat, ltB_lit', leB_lit', ltB_lit]
  have fin : ∀ b : Bool, b = decide (r < least ∨ r > 0x10ffff ∨ (r ≥ 0xd800 ∧ r < 0xe000)) → Q (rnV (if b then (0xfffd, 1, true) else (r, i, false))) A1 := fun b hb => by
   subst hb
   have := H A1 hp
   by_cases hc : r < least ∨ r > 0x10ffff ∨ (r ≥ 0xd800 ∧ r < 0xe000)
   ·rw [if_pos hc] at this
    rw [decide_eq_true hc]
    exact this
   ·rw [if_neg hc] at this
    rw [decide_eq_false hc]
    exact this
  have w32 : wrapW .i32 ((r : Nat) : Int) = (r : Int) := wrapW_nat (topI32 (by omega))
  simp only [w32]
  refine ev_ite (fun h1 => ?_) fun h1 => ?_
  ·rw [decide_eq_true_eq] at h1
   exact ev_t rfl (ev_pure (fin true (decide_eq_true (.inl h1)).symm))
  rw [decide_eq_false_iff_not] at h1
  refine ev_ite (fun h2 => ?_) fun h2 => ?_
  ·rw [decide_eq_true_eq] at h2
   exact ev_t rfl (ev_pure (fin true (decide_eq_true (.inr (.inl h2))).symm))
  rw [decide_eq_false_iff_not] at h2
  refine ev_ite (fun h3 => ?_) fun h3 => ?_
  ·rw [decide_eq_true_eq] at h3
   refine ev_ite (fun h4 => ?_) fun h4 => ?_
   ·rw [decide_eq_true_eq] at h4
    exact ev_pure (fin true (decide_eq_true (.inr (.inr ⟨h3, h4⟩))).symm)
   ·rw [decide_eq_false_iff_not] at h4
    exact ev_pure (fin false (decide_eq_false (by omega)).symm)
  ·rw [decide_eq_false_iff_not] at h3
   exact ev_f rfl (ev_pure (fin false (decide_eq_false (by omega)).symm))
theorem refRuneG {s : List UInt8} (hl : s ≠ []) : Gives (tabsOf os) (XX os) 1 71 [.string (BA s)] (rnV ((rune s).1, (rune s).2, bad s)) := by
 intro A l Q hp H
 rw [← refRune_eq] at H
 have hlen : 0 < s.length := List.length_pos_iff.2 hl
 have hb := at_lt s 0
 refine t71 (d := 0) (BA s, ()) fun n hn => ?_
 unfold f71
 simp only [inB_0, BA_size, at_byteAt0]
 refine ev_guard (decide_eq_true hlen) ?_
 rw [wrap_i64n (by omega), ltB_lit]
 refine ev_ite (fun h => ?_) fun h => ?_
 ·rw [decide_eq_true_eq] at h
  have : refRune s = (at' s 0, 1, false) := by unfold refRune; simp only [if_pos h]
  rw [this] at H
  rw [wrapW_nat (topI32 (by omega))]
  exact ev_pure (H A hp)
 rw [decide_eq_false_iff_not] at h
 rw [refRune_tail h] at H
 refine ev_join (fun j A' => j = ((((headP (at' s 0)).1 : Nat) : Int), (((headP (at' s 0)).2.1 : Nat) : Int), (((headP (at' s 0)).2.2 : Nat) : Int), ()) ∧ Hp (tabsOf os) A' l) ?_ fun go hgo => ?_
 ·rintro _ A1 ⟨rfl, hp⟩
  have hpc : (headP (at' s 0)).1 = 0 ∨ (((headP (at' s 0)).1 = 2 ∨ (headP (at' s 0)).1 = 3 ∨ (headP (at' s 0)).1 = 4) ∧ (headP (at' s 0)).2.2 < 64) := by
   unfold headP
   (repeat' split) <;> simp <;> omega
  generalize headP (at' s 0) = p at *
  obtain ⟨m, least, r0⟩ := p
  simp only at *
  simp only [M.join, ltB_nat]
  rw [eqB_lit]
  have bad : m = 0 ∨ s.length < m → Q (rnV (0xfffd, 1, true)) A1 := fun hc => by
   have := H A1 hp
   unfold refTail at this
   rwa [if_pos hc] at this
  refine ev_ite (fun h1 => ?_) fun h1 => ?_
  ·rw [decide_eq_true_eq] at h1
   exact ev_t rfl (ev_pure (bad (.inl h1)))
  rw [decide_eq_false_iff_not] at h1
  refine ev_ite (fun h2 => ?_) fun h2 => ?_
  ·rw [decide_eq_true_eq] at h2
   exact ev_pure (bad (.inr h2))
  rw [decide_eq_false_iff_not] at h2
  rcases hpc with e | ⟨e1, e2⟩
  ·exact absurd e h1
  ·exact refTailG s (m, least, r0) e1 (by simp only; omega) e2 hp H n
 ·unfold f71c2
  simp only [M.join]
  have hgo' : ∀ p : Nat × Nat × Nat, p = headP (at' s 0) → Ev (go ((p.1 : Int), (p.2.1 : Int), (p.2.2 : Int), ())) A Q := fun p e => hgo _ A ⟨by rw [e], hp⟩
  unfold headP at hgo'
  generalize at' s 0 = c at *
  by_cases h1 : 192 ≤ c
  ·by_cases h2 : c < 224
   ·refine ev_t (by rw [leB_lit']; exact decide_eq_true h1) (ev_t (by rw [ltB_lit]; exact decide_eq_true h2) ?_)
    rw [subW_lit h1 (by omega)]
    exact hgo' (2, 128, c - 192) (by rw [if_pos ⟨h1, h2⟩])
   ·refine ev_t (by rw [leB_lit']; exact decide_eq_true h1) (ev_f (by rw [ltB_lit]; exact decide_eq_false h2) ?_)
    by_cases h3 : c < 240
    ·refine ev_t (by rw [leB_lit']; exact decide_eq_true (by omega)) (ev_t (by rw [ltB_lit]; exact decide_eq_true h3) ?_)
     rw [subW_lit (by omega) (by omega)]
     exact hgo' (3, 2048, c - 224) (by rw [if_neg (by omega), if_pos ⟨by omega, h3⟩])
    ·refine ev_t (by rw [leB_lit']; exact decide_eq_true (by omega)) (ev_f (by rw [ltB_lit]; exact decide_eq_false h3) ?_)
     by_cases h4 : c < 248
     ·refine ev_t (by rw [leB_lit']; exact decide_eq_true (by omega)) (ev_t (by rw [ltB_lit]; exact decide_eq_true h4) ?_)
      rw [subW_lit (by omega) (by omega)]
      exact hgo' (4, 65536, c - 240) (by rw [if_neg (by omega), if_neg (by omega), if_pos ⟨by omega, h4⟩])
     ·refine ev_t (by rw [leB_lit']; exact decide_eq_true (by omega)) (ev_f (by rw [ltB_lit]; exact decide_eq_false h4) ?_)
      exact hgo' (0, 0, 0) (by rw [if_neg (by omega), if_neg (by omega), if_neg (by omega)])
  ·refine ev_f (by rw [leB_lit']; exact decide_eq_false h1) (ev_f rfl (ev_f (by rw [leB_lit']; exact decide_eq_false (by omega)) (ev_f rfl (ev_f (by rw [leB_lit']; exact decide_eq_false (by omega)) (ev_f rfl ?_)))))
   exact hgo' (0, 0, 0) (by rw [if_neg (by omega), if_neg (by omega), if_neg (by omega)])
end
end Go.Proofs.YtlcigkdflbfdgaaGreatDoor.sg
namespace Go.Proofs.YtlcigkdflbfdgaaGreatDoor.sg
set_option linter.unusedVariables false
open Go Go.Eng Go.Sh
section
variable {os : List (Nat × AObj)} {A : AW} {Q : Value → AW → Prop} {l : List Thing}
/-- A slice of bytes that grows. -/
abbrev bts (sl : SL) (bs : List UInt8) (l : List Thing) : List Thing := .vec 5 1 false sl.1 sl.2.1 sl.2.2 (u8s bs) :: l
theorem bts_len {sl : SL} {bs : List UInt8} (hp : Hp (tabsOf os) A (bts sl bs l)) : sl.2.1 = bs.length := by
 have := (hp.own 0 _ rfl).1
 rw [u8s_length] at this
 omega
/-- A few bytes, laid anew, behind it. -/
theorem ev_bytes {ρ : Type} {Q : ρ → AW → Prop} {sl : SL} {bs : List UInt8} {K : Option Addr → Nat → Nat → M ρ} (cs : List UInt8) {vs : List Value} {m : Nat} (hp : Hp (tabsOf os) A (bts sl bs l)) (hv : vs = u8s cs) (hm : m = cs.length) (hb : bs.length + cs.length < 2 ^ 40)
  (HK : ∀ A' a n, Hp (tabsOf os) A' (bts (a, n, n) (bs ++ cs) l) → Ev (K a n n) A' Q) : Ev (M.new (.cells (Row.ofList vs) 5 false (0, 0) false) fun b => M.append 5 1 1 sl.1 sl.2.1 sl.2.2 (.slice (some (Addr.mk b 0 none)) m m) K) A Q := by
 subst hv
 subst hm
 have hsl := bts_len hp
 refine ev_new hp fun b A5 hp => ?_
 refine ev_append_row 1 0 hp rfl rfl (by rw [u8s_length, Nat.mul_one]) (Nat.le_refl _) (Nat.le_refl _) (by rw [hsl]; omega) (u8s_one _) fun A6 a' hp => ?_
 exact HK A6 a' _ (by unfold bts; rw [u8s_append]; exact hp.tail)
theorem ev_bytes_str {ρ : Type} {Q : ρ → AW → Prop} {sl : SL} {bs : List UInt8} {K : Option Addr → Nat → Nat → M ρ} (cs : List UInt8) (hp : Hp (tabsOf os) A (bts sl bs l)) (hb : bs.length + cs.length < 2 ^ 40)
  (HK : ∀ A' a n, Hp (tabsOf os) A' (bts (a, n, n) (bs ++ cs) l) → Ev (K a n n) A' Q) : Ev (M.append 5 1 1 sl.1 sl.2.1 sl.2.2 (.string (BA cs)) K) A Q := by
 have hsl := bts_len hp
 refine ev_append_str 0 hp rfl (by rw [BA_size, hsl]; omega) fun A6 a' hp => ?_
 exact HK A6 a' _ (by unfold bts; rw [u8s_append]; exact hp)
theorem refQuoteG (s : List UInt8) (hs : s.length < 2 ^ 37) : Gives (tabsOf os) (XX os) 2 43 [.string (BA s)] (.string (BA (word s))) := by
 intro A l Q hp H
 refine t43 (d := 1) (BA s, ()) fun n hn => ?_
 unfold f43
 refine ev_bytes (sl := (none, 0, 0)) (bs := []) [34] (hp.vec0 5 1 false) rfl rfl (by decide) fun A1 a1 n1 hp => ?_
 unfold f43c3
 refine ev_bind (ev_LL (fun m st A' => ∃ pos bs, m = s.length - pos ∧ pos ≤ s.length ∧ st.2.1 = ((pos : Nat) : Int) ∧ Hp (tabsOf os) A' (bts st.1 bs l) ∧ 34 :: inside s = bs ++ inside (s.drop pos) ∧ bs.length ≤ 1 + 4 * pos) (m := s.length)
  ⟨0, [34], rfl, by omega, rfl, hp, rfl, by simp⟩ (by omega) ?_)
 rintro m ⟨sl, at', u⟩ A4 ⟨pos, bs, rfl, hpos, e, hp, hw, hlb⟩
 simp only at e hp
 subst e
 simp only [ltB_nat, BA_size, upB_nat, Int.toNat_natCast, BA_till]
 refine ev_ite (fun hlt => ?_) fun hge => ?_
 ·rw [decide_eq_true_eq] at hlt
  have hle := rune_len_drop hlt
  obtain ⟨c, t, e⟩ := drop_cons hlt
  have hpos2 := rune_pos (s.drop pos)
  refine ev_guard (decide_eq_true (by omega)) ?_
  refine (refRuneG (s := s.drop pos) (by rw [e]; simp)).use hn hp rfl fun A6 hp => ?_
  have hq := inside_step c t
  rw [← e, List.drop_drop] at hq
  have ho : odd (s.drop pos) = (Sh.bad (s.drop pos) || decide ((rune (s.drop pos)).1 < 32) || decide ((rune (s.drop pos)).1 = 127)) := rfl
  rw [ho] at hq
  have hc : byteAt (BA s) (pos : Int) = (c.toNat : Int) := by
   rw [at_byteAt]
   have : Sh.at' s pos = Sh.at' (s.drop pos) 0 := by unfold Sh.at'; rw [List.getElem?_drop, Nat.add_zero]
   rw [this, e]; rfl
  have hcl : c.toNat < 256 := c.toNat_lt
  unfold f43c2
  have ht2 : ((s.drop pos).take (rune (s.drop pos)).2).length ≤ (rune (s.drop pos)).2 := by rw [List.length_take]; omega
  refine ev_join (fun j A' => ∃ bs', Hp (tabsOf os) A' (bts j.1 bs' l) ∧ 34 :: inside s = bs' ++ inside (s.drop (pos + (rune (s.drop pos)).2)) ∧ bs'.length ≤ 1 + 4 * (pos + (rune (s.drop pos)).2)) ?_ fun go hgo => ?_
  ·rintro ⟨sl', _⟩ A7 ⟨bs', g1, g2, g3⟩
   simp only at g1
   simp only
   rw [addW_i64 (by omega)]
   exact ev_pure ⟨_, by omega, _, bs', rfl, hle, rfl, g1, g2, g3⟩
  generalize Sh.bad (s.drop pos) = bd at *
  generalize rune (s.drop pos) = R at *
  obtain ⟨r, m⟩ := R
  simp only at *
  refine ev_join (fun j A' => Hp (tabsOf os) A' (bts sl bs l) ∧ j = (bd || decide (r < 32) || decide (r = 127), ())) ?_ fun go2 hgo2 => ?_
  ·rintro _ A7 ⟨hp, rfl⟩
   simp only
   refine ev_ite (fun h => ?_) fun h => ?_
   ·rw [if_pos h] at hq
    simp only [inB_nat, BA_size, hc]
    refine ev_guard (decide_eq_true hlt) ?_
    unfold f43c0
    have e1 : IntKind.u8.wrap ((c.toNat : Int).tdiv 16) = ((c.toNat / 16 : Nat) : Int) := by
     rw [show ((c.toNat : Int).tdiv 16) = ((c.toNat / 16 : Nat) : Int) from rfl]
     exact wrap_nat (topU8 (by omega))
    have e2 : ((c.toNat : Int)).tmod 16 = ((c.toNat % 16 : Nat) : Int) := rfl
    have h1 := hex_at ⟨c.toNat / 16, by omega⟩
    have h2 := hex_at ⟨c.toNat % 16, by omega⟩
    simp only at h1 h2
    simp only [e1, inB_nat, BA_size, hc, e2, h1, h2]
    refine ev_guard (by decide) (ev_guard (decide_eq_true (by show c.toNat / 16 < 16; omega)) (ev_guard (decide_eq_true hlt) (ev_guard (by decide) (ev_guard (decide_eq_true (by show c.toNat % 16 < 16; omega)) ?_))))
    exact ev_bytes [92, 120, hexd (c.toNat / 16), hexd (c.toNat % 16)] hp rfl rfl (by simp only [List.length_cons, List.length_nil]; omega) fun A8 a8 n8 hp => hgo _ A8 ⟨_, hp, by rw [hw, hq, List.append_assoc], by simp only [List.length_append, List.length_cons, List.length_nil]; omega⟩
   ·rw [if_neg (by rw [h]; simp)] at hq
    unfold f43c1
    simp only [M.join]
    by_cases h12 : r = 34 ∨ r = 92
    ·rw [if_pos h12] at hq
     refine ev_or (by rw [eqB_lit, eqB_lit, Bool.or_eq_true, decide_eq_true_eq, decide_eq_true_eq]; exact h12) ?_
     simp only [inB_nat, BA_size, hc]
     refine ev_guard (decide_eq_true hlt) ?_
     exact ev_bytes [92, c] hp rfl rfl (by simp only [List.length_cons, List.length_nil]; omega) fun A8 a8 n8 hp => hgo _ A8 ⟨_, hp, by rw [hw, hq, List.append_assoc], by simp only [List.length_append, List.length_cons, List.length_nil]; omega⟩
    ·rw [if_neg h12] at hq
     refine ev_nor (by rw [eqB_lit, eqB_lit, Bool.or_eq_false_iff, decide_eq_false_iff_not, decide_eq_false_iff_not]; exact not_or.1 h12) ?_
     rw [addW_i64 (by omega)]
     simp only [upB_nat, BA_size, Int.toNat_natCast, BA_extract]
     refine ev_guard (decide_eq_true hle) (ev_guard (decide_eq_true (by omega)) ?_)
     rw [List.drop_take, show pos + m - pos = m by omega]
     exact ev_bytes_str _ hp (by omega) fun A8 a8 n8 hp => hgo _ A8 ⟨_, hp, by rw [hw, hq, List.append_assoc], by rw [List.length_append]; omega⟩
  ·have fin : ∀ q, q = (bd || decide (r < 32) || decide (r = 127)) → Ev (go2 (q, ())) A6 _ := fun q hq8 => hgo2 _ _ ⟨hp, by rw [hq8]⟩
   refine ev_ite (fun h1 => ?_) fun h1 => ?_
   ·exact fin true (by rw [h1]; rfl)
   rw [ltB_lit]
   refine ev_ite (fun h2 => ?_) fun h2 => ?_
   ·exact fin true (by rw [show decide (r < 32) = true from h2]; simp)
   ·rw [eqB_lit]
    exact fin _ (by rw [h1, show decide (r < 32) = false from h2]; rfl)
 ·rw [decide_eq_false_iff_not] at hge
  refine ev_pure ?_
  simp only [Round, M.sum]
  rw [List.drop_of_length_le (by omega), inside_nil, List.append_nil] at hw
  refine ev_bytes [34] hp rfl rfl (by simp only [List.length_cons, List.length_nil]; omega) fun A8 a8 n8 hp => ?_
  refine ev_toStr 0 hp rfl (ev_pure ?_)
  have e : bs ++ [34] = word s := by rw [← hw]; rfl
  rw [BA_prj, e]
  exact H A8 hp.tail
end
end Go.Proofs.YtlcigkdflbfdgaaGreatDoor.sg
namespace Go.Proofs.YtlcigkdflbfdgaaGreatDoor.sg
set_option linter.unusedVariables false
open Go Go.Eng Go.Sh
section
variable {os : List (Nat × AObj)} {A : AW} {Q : Value → AW → Prop} {l : List Thing}
theorem byte_drop {s t : List UInt8} {c : UInt8} {i : Nat} (h : s.drop i = c :: t) : byteAt (BA s) (i : Int) = (c.toNat : Int) := by
 rw [at_byteAt]
 have : at' s i = at' (s.drop i) 0 := by unfold at'; rw [List.getElem?_drop, Nat.add_zero]
 rw [this, h]; rfl
theorem drop_next {s t : List UInt8} {c : UInt8} {i : Nat} (h : s.drop i = c :: t) : s.drop (i + 1) = t := by
 rw [← List.drop_drop, h]; rfl
theorem drop_len {s t : List UInt8} {c : UInt8} {i : Nat} (h : s.drop i = c :: t) : i < s.length ∧ s.length - i = t.length + 1 := by
 have := congrArg List.length h
 rw [List.length_drop, List.length_cons] at this
 omega
/-- A hex digit, as the document reads it. -/
theorem hexv_of (c : UInt8) : hexv c = if 48 ≤ c.toNat ∧ c.toNat ≤ 57 then some (c.toNat - 48) else if 97 ≤ c.toNat ∧ c.toNat ≤ 102 then some (c.toNat - 87) else none := rfl
theorem eqB_byte (c d : UInt8) (n : Nat) (h : n = d.toNat) : eqB (c.toNat : Int) (n : Int) = decide (c = d) := by
 subst h
 rw [eqB_nat]
 exact decide_eq_decide.2 UInt8.toNat_inj
theorem subW_u8 {a b : Nat} (h : b ≤ a) (h2 : a < 256) : subW .u8 (a : Int) (b : Int) = ((a - b : Nat) : Int) := by
 rw [subW_eq, show (a : Int) - b = ((a - b : Nat) : Int) by omega]
 exact wrap_nat (topU8 (by omega))
theorem digitG {X : XT} {L : LoopI} {x k : Nat} (c : UInt8) {Q' : ((Int) × (Int) × Unit) ⊕ (((Int) × Unit) ⊕ (((ByteArray) × (ByteArray) × (Bool) × Unit) ⊕ (Unit))) → AW → Prop} (hx : x < 1000) (hk : k < 1000)
  (H1 : ∀ v, hexv c = some v → Q' (.inl (((16 * x + v : Nat) : Int), ((k + 1 : Nat) : Int), ())) A) (H2 : hexv c = none → Q' (.inr (.inr (.inl (st0, st0, false, ())))) A) : Ev (f75c0 X L ((x : Int), (k : Int), ()) (c.toNat : Int)) A Q' := by
 have hc := c.toNat_lt
 unfold f75c0
 simp only [M.join]
 rw [addW_1 (by omega)]
 by_cases h1 : 48 ≤ c.toNat
 ·refine ev_t (by rw [leB_lit']; exact decide_eq_true h1) ?_
  by_cases h2 : c.toNat ≤ 57
  ·refine ev_t (by rw [leB_lit]; exact decide_eq_true h2) (ev_pure ?_)
   have := H1 (c.toNat - 48) (by rw [hexv_of, if_pos ⟨h1, h2⟩])
   rw [show (48 : Int) = ((48 : Nat) : Int) from rfl, subW_u8 h1 hc, wrap_i64n (by omega), mulW_lit (by show 16 * x < _; omega), addW_i64 (by show 16 * x + _ < _; omega)]
   exact this
  ·refine ev_f (by rw [leB_lit]; exact decide_eq_false h2) ?_
   by_cases h3 : 97 ≤ c.toNat
   ·refine ev_t (by rw [leB_lit']; exact decide_eq_true h3) ?_
    by_cases h4 : c.toNat ≤ 102
    ·refine ev_t (by rw [leB_lit]; exact decide_eq_true h4) (ev_pure ?_)
     have := H1 (c.toNat - 87) (by rw [hexv_of, if_neg (by omega), if_pos ⟨h3, h4⟩])
     rw [show (97 : Int) = ((97 : Nat) : Int) from rfl, subW_u8 h3 hc, wrap_i64n (by omega), mulW_lit (by show 16 * x < _; omega), addW_i64 (by show 16 * x + _ < _; omega), addW_lit (by show 16 * x + _ + 10 < _; omega)]
     rw [show 16 * x + (c.toNat - 87) = 16 * x + (c.toNat - 97) + 10 by omega] at this
     exact this
    ·exact ev_f (by rw [leB_lit]; exact decide_eq_false h4) (ev_pure (H2 (by rw [hexv_of, if_neg (by omega), if_neg (by omega)])))
   ·exact ev_f (by rw [leB_lit']; exact decide_eq_false h3) (ev_f rfl (ev_pure (H2 (by rw [hexv_of, if_neg (by omega), if_neg (by omega)]))))
 ·exact ev_f (by rw [leB_lit']; exact decide_eq_false h1) (ev_f rfl (ev_f (by rw [leB_lit']; exact decide_eq_false (by omega)) (ev_f rfl (ev_pure (H2 (by rw [hexv_of, if_neg (by omega), if_neg (by omega)]))))))
theorem map_step {β : Type} (x : UInt8) (bs : List UInt8) (o : Option (List UInt8 × β)) : (o.map fun p => (x :: p.1, p.2)).map (fun p => (bs ++ p.1, p.2)) = o.map fun p => ((bs ++ [x]) ++ p.1, p.2) := by
 cases o <;> simp
theorem refUnquoteG (s : List UInt8) (hs : s.length < 2 ^ 36) : Gives (tabsOf os) (XX os) 3 75 [.string (BA s)] (unqV (unqR s)) := by
 intro A l Q hp H
 refine t75 (d := 2) (BA s, ()) fun n hn => ?_
 unfold f75
 simp only [M.join, BA_size, inB_0, at_byteAt0]
 rw [eqB_lit]
 by_cases hn0 : s.length = 0
 ·obtain rfl := List.eq_nil_of_length_eq_zero hn0
  exact ev_t (by rfl) (ev_t rfl (ev_pure (H A hp)))
 refine ev_f (decide_eq_false hn0) (ev_guard (decide_eq_true (by omega)) ?_)
 obtain ⟨c0, t0, rfl⟩ : ∃ c t, s = c :: t := by
  cases s with
  | nil => exact absurd rfl hn0
  | cons c t => exact ⟨c, t, rfl⟩
 have e0 : ((at' (c0 :: t0) 0 : Nat) : Int) = (c0.toNat : Int) := rfl
 rw [e0, show (34 : Int) = ((34 : Nat) : Int) from rfl, eqB_byte c0 34 34 rfl]
 by_cases h34 : c0 = 34
 rotate_left
 ·have : unqR (c0 :: t0) = none := by unfold unqR; simp only [if_neg h34]
  rw [this] at H
  exact ev_t (by rw [decide_eq_false h34]; rfl) (ev_pure (H A hp))
 refine ev_f (by rw [decide_eq_true h34]; rfl) ?_
 have hu : unqR (c0 :: t0) = match readW ((c0 :: t0).drop 1) with
  | some (b, rest) => if word b = (c0 :: t0).take ((c0 :: t0).length - rest.length) then some (b, rest) else none
  | none => none := by
  show (if c0 = 34 then _ else none) = _
  rw [if_pos h34]
  rfl
 rw [hu] at H
 clear hu e0 h34
 generalize c0 :: t0 = s at *
 have no : ∀ A', Hp (tabsOf os) A' l → readW (s.drop 1) = none → Q (unqV none) A' := fun A' h' e => by
  have := H A' h'
  rw [e] at this
  exact this
 unfold f75c5
 refine ev_bind (ev_LL (fun m st A' => ∃ pos bs, m = s.length - pos ∧ 1 ≤ pos ∧ pos ≤ s.length ∧ st.2.1 = ((pos : Nat) : Int) ∧ Hp (tabsOf os) A' (bts st.1 bs l) ∧ readW (s.drop 1) = (readW (s.drop pos)).map (fun p => (bs ++ p.1, p.2)) ∧ bs.length ≤ pos) (m := s.length - 1)
  ⟨1, [], rfl, by decide, by omega, rfl, hp.vec0 5 1 false, by cases readW (s.drop 1) <;> simp, by simp⟩ (by omega) ?_)
 rintro m ⟨sl, at0, u⟩ A4 ⟨pos, bs, rfl, hpos1, hpos, e, hp, hw, hlb⟩
 simp only at e hp
 subst e
 simp only [ltB_nat, BA_size, inB_nat]
 have leave : ∀ A4, Hp (tabsOf os) A4 (bts sl bs l) → (s.drop pos = [] ∨ ∃ t, s.drop pos = 34 :: t) → Ev (f75c4 (XX os n) LL (BA s, ()) (sl, (pos : Int), ())) A4 Q := fun A4 hp hc => by
  unfold f75c4
  simp only [M.join, BA_size, leB_nat]
  rcases hc with hc | ⟨t, hc⟩
  ·have hlen := congrArg List.length hc
   rw [List.length_drop] at hlen
   have hlen : s.length - pos = 0 := hlen
   refine ev_t (decide_eq_true (by omega)) (ev_t rfl (ev_pure (no A4 hp.tail ?_)))
   rw [hw, hc, readW_nil]; rfl
  ·obtain ⟨hlt, hl⟩ := drop_len hc
   rw [hc, readW_end] at hw
   simp only [Option.map_some, List.append_nil] at hw
   rw [hw] at H
   simp only at H
   refine ev_f (decide_eq_false (by omega)) ?_
   rw [addW_1 (by omega)]
   simp only [upB_nat, Int.toNat_natCast, BA_extract, List.drop_zero]
   refine ev_guard (decide_eq_true (by omega)) (ev_toStr 0 hp rfl ?_)
   refine (refQuoteG bs (by omega)).use hn hp rfl fun A5 hp => ?_
   rw [show s.length - t.length = pos + 1 by omega] at H
   rw [BA_seq]
   by_cases hwd : word bs = s.take (pos + 1)
   ·rw [if_pos hwd] at H
    refine ev_f (by rw [decide_eq_true hwd]; rfl) (ev_guard (decide_eq_true (by omega)) (ev_toStr 0 hp rfl (ev_pure (by rw [List.take_length, drop_next hc]; exact H A5 hp.tail))))
   ·rw [if_neg hwd] at H
    exact ev_t (by rw [decide_eq_false hwd]; rfl) (ev_pure (H A5 hp.tail))
 refine ev_join (fun j A' => Hp (tabsOf os) A' (bts sl bs l) ∧ ((j.1 = false ∧ (s.drop pos = [] ∨ ∃ t, s.drop pos = 34 :: t)) ∨ (j.1 = true ∧ ∃ c t, s.drop pos = c :: t ∧ c ≠ 34))) ?_ fun go hgo => ?_
 rotate_left
 ·by_cases hlt : pos < s.length
  ·obtain ⟨c, t, hc⟩ := drop_cons hlt
   refine ev_t (decide_eq_true hlt) (ev_guard (decide_eq_true hlt) ?_)
   rw [byte_drop hc, show (34 : Int) = ((34 : Nat) : Int) from rfl, eqB_byte c 34 34 rfl]
   by_cases h34 : c = 34
   ·exact hgo _ A4 ⟨hp, .inl ⟨by rw [decide_eq_true h34]; rfl, .inr ⟨t, by rw [hc, h34]⟩⟩⟩
   ·exact hgo _ A4 ⟨hp, .inr ⟨by rw [decide_eq_false h34]; rfl, c, t, hc, h34⟩⟩
  ·exact ev_f (decide_eq_false hlt) (hgo _ A4 ⟨hp, .inl ⟨rfl, .inl (List.drop_of_length_le (by omega))⟩⟩)
 rintro ⟨j, _⟩ A5 ⟨hp5, ⟨rfl, hc⟩ | ⟨rfl, c, t, hc, h34⟩⟩
 ·refine ev_f rfl (ev_pure ?_)
  simp only [Round, M.sum]
  exact leave A5 hp5 hc
 ·refine ev_t rfl ?_
  obtain ⟨hlt, htl⟩ := drop_len hc
  have nx := drop_next hc
  have out : readW (s.drop 1) = none → ∀ A6, Hp (tabsOf os) A6 (bts sl bs l) → Q (unqV none) A6 := fun e A6 h6 => no A6 h6.tail e
  refine ev_join (fun j A' => ∃ pos' bs', pos < pos' ∧ pos' ≤ s.length ∧ j.2.1 = ((pos' : Nat) : Int) ∧ Hp (tabsOf os) A' (bts j.1 bs' l) ∧ readW (s.drop 1) = (readW (s.drop pos')).map (fun p => (bs' ++ p.1, p.2)) ∧ bs'.length ≤ pos') ?_ fun go6 hgo6 => ?_
  ·rintro ⟨sl', k, _⟩ A6 ⟨pos', bs', g1, g2, rfl, g4, g5, g6⟩
   exact ev_pure ⟨_, by omega, pos', bs', rfl, by omega, g2, rfl, g4, g5, g6⟩
  unfold f75c3
  simp only [BA_size, inB_nat]
  refine ev_guard (decide_eq_true hlt) ?_
  rw [byte_drop hc, show (92 : Int) = ((92 : Nat) : Int) from rfl, eqB_byte c 92 92 rfl]
  by_cases h92 : c = 92
  rotate_left
  ·refine ev_t (by rw [decide_eq_false h92]; rfl) (ev_guard (decide_eq_true hlt) ?_)
   refine ev_bytes [c] hp5 rfl rfl (by simp only [List.length_cons, List.length_nil]; omega) fun A6 a6 n6 h6 => ?_
   rw [addW_1 (by omega)]
   refine hgo6 _ A6 ⟨pos + 1, bs ++ [c], by omega, by omega, rfl, h6, ?_, by simp only [List.length_append, List.length_cons, List.length_nil]; omega⟩
   rw [hw, hc, readW_one t h34 h92, map_step, nx]
  subst h92
  refine ev_f rfl ?_
  rw [addW_1 (by omega), leB_nat]
  by_cases ht : t = []
  ·subst ht
   refine ev_t (decide_eq_true (by simp at htl; omega)) (ev_pure (ev_pure (out ?_ A5 hp5)))
   rw [hw, hc, readW_stop]; rfl
  obtain ⟨x, t1, rfl⟩ : ∃ x t1, t = x :: t1 := by
   cases t with
   | nil => exact absurd rfl ht
   | cons x t1 => exact ⟨x, t1, rfl⟩
  obtain ⟨hlt2, htl2⟩ := drop_len nx
  refine ev_f (decide_eq_false (by omega)) ?_
  unfold f75c2
  simp only [BA_size, inB_nat]
  refine ev_guard (decide_eq_true hlt2) ?_
  rw [byte_drop nx, show (120 : Int) = ((120 : Nat) : Int) from rfl, eqB_byte x 120 120 rfl]
  by_cases h120 : x = 120
  rotate_left
  ·refine ev_t (by rw [decide_eq_false h120]; rfl) ?_
   rw [addW_1 (by omega)]
   simp only [inB_nat]
   refine ev_guard (decide_eq_true hlt2) ?_
   rw [byte_drop nx]
   refine ev_bytes [x] hp5 rfl rfl (by simp only [List.length_cons, List.length_nil]; omega) fun A6 a6 n6 h6 => ?_
   rw [addW_lit (by show pos + 2 < _; omega)]
   refine hgo6 _ A6 ⟨pos + 2, bs ++ [x], by omega, by omega, rfl, h6, ?_, by simp only [List.length_append, List.length_cons, List.length_nil]; omega⟩
   rw [hw, hc, readW_esc t1 h120, map_step, show pos + 2 = pos + 1 + 1 from rfl, drop_next nx]
  subst h120
  refine ev_f rfl ?_
  rw [addW_lit (by show pos + 3 < _; omega), leB_nat]
  by_cases h3 : s.length ≤ pos + 3
  ·refine ev_t (decide_eq_true h3) (ev_pure (ev_pure (out ?_ A5 hp5)))
   rw [hw, hc, readW_few (by omega)]; rfl
  refine ev_f (decide_eq_false h3) ?_
  have nx2 := drop_next nx
  obtain ⟨a, b, t2, rfl⟩ : ∃ a b t2, t1 = a :: b :: t2 := by
   match t1, (show 2 ≤ t1.length by omega) with
   | [], h => simp at h
   | [a], h => simp at h
   | a :: b :: t2, _ => exact ⟨a, b, t2, rfl⟩
  have nx3 := drop_next nx2
  unfold f75c1
  obtain ⟨hlt3, _⟩ := drop_len nx2
  obtain ⟨hlt4, _⟩ := drop_len nx3
  refine ev_bind (ev_LL (fun m st A' => A' = A5 ∧ ((m = 2 ∧ st = (0, 2, ())) ∨ (m = 1 ∧ ∃ u, hexv a = some u ∧ st = (((u : Nat) : Int), 3, ())) ∨ (m = 0 ∧ ∃ u v, hexv a = some u ∧ hexv b = some v ∧ st = (((16 * u + v : Nat) : Int), 4, ())))) (m := 2) ⟨rfl, .inl ⟨rfl, rfl⟩⟩ (by omega) ?_)
  have bad : hexv a = none ∨ hexv b = none → readW (s.drop 1) = none := fun h => by rw [hw, hc, readW_nohex t2 h]; rfl
  rintro m st A6 ⟨rfl, ⟨rfl, rfl⟩ | ⟨rfl, u, hu, rfl⟩ | ⟨rfl, u, v, hu, hv, rfl⟩⟩
  ·refine ev_t (by decide) ?_
   simp only
   rw [addW_lit (by show pos + 2 < _; omega)]
   refine ev_guard (by rw [inB_nat]; exact decide_eq_true hlt3) ?_
   rw [show byteAt (BA s) ((pos + 2 : Nat) : Int) = (a.toNat : Int) from byte_drop nx2]
   refine digitG (x := 0) (k := 2) a (by decide) (by decide) (fun v hv => ⟨1, by decide, rfl, .inr (.inl ⟨rfl, v, hv, by simp⟩)⟩) fun hno => ?_
   exact ev_pure (ev_pure (out (bad (.inl hno)) A6 hp5))
  ·refine ev_t (show ltB 3 4 = true by decide) ?_
   simp only
   rw [addW_lit (by show pos + 3 < _; omega)]
   refine ev_guard (by rw [inB_nat]; exact decide_eq_true hlt4) ?_
   rw [show byteAt (BA s) ((pos + 3 : Nat) : Int) = (b.toNat : Int) from byte_drop nx3]
   have := hexv_lt hu
   refine digitG (x := u) (k := 3) b (by omega) (by decide) (fun v hv => ⟨0, by decide, rfl, .inr (.inr ⟨rfl, u, v, hu, hv, rfl⟩)⟩) fun hno => ?_
   exact ev_pure (ev_pure (out (bad (.inr hno)) A6 hp5))
  ·have h1 := hexv_lt hu
   have h2 := hexv_lt hv
   refine ev_f (show ltB 4 4 = false by decide) (ev_pure ?_)
   simp only [Round, M.sum]
   refine ev_bytes [UInt8.ofNat (16 * u + v)] hp5 ?_ rfl (by simp only [List.length_cons, List.length_nil]; omega) fun A7 a7 n7 h7 => ?_
   ·rw [wrapU8, Nat.mod_eq_of_lt (by omega), u8v (16 * u + v) (by omega)]; rfl
   rw [addW_lit (by show pos + 4 < _; omega)]
   refine hgo6 _ A7 ⟨pos + 4, bs ++ [UInt8.ofNat (16 * u + v)], by omega, by omega, rfl, h7, ?_, by simp only [List.length_append, List.length_cons, List.length_nil]; omega⟩
   rw [hw, hc, readW_hex t2 hu hv, map_step, show pos + 4 = pos + 1 + 1 + 1 + 1 from rfl, drop_next nx3]
end
end Go.Proofs.YtlcigkdflbfdgaaGreatDoor.sg
