/-
  Walks: W1, W2, W3, W4.
-/
import Derived.Test.YtlcigkdflbfdgaaDoorSbG
import Derived.Test.YtlcigkdflbfdgaaDoorEng28
import Derived.Test.YtlcigkdflbfdgaaDoorPlain
namespace Go.Proofs.YtlcigkdflbfdgaaDoor.sb
set_option linter.unusedVariables false
open Go Go.Eng Go.Sh
section
variable {os : List (Nat × AObj)}
theorem at_byteAt (l : List UInt8) (i : Nat) : byteAt (BA l) (i : Int) = (at' l i : Int) := by
  rw [BA_byteAt]; rfl
theorem at_byteAt0 (l : List UInt8) : byteAt (BA l) 0 = (at' l 0 : Int) := at_byteAt l 0
theorem at_byteAt1 (l : List UInt8) : byteAt (BA l) 1 = (at' l 1 : Int) := at_byteAt l 1
theorem at_byteAt2 (l : List UInt8) : byteAt (BA l) 2 = (at' l 2 : Int) := at_byteAt l 2
theorem at_byteAt3 (l : List UInt8) : byteAt (BA l) 3 = (at' l 3 : Int) := at_byteAt l 3

theorem prefixL (a b : List UInt8) : Gives (tabsOf os) (XX os) 1 39 [.string (BA a), .string (BA b)] (.bool (decide (a.take b.length = b))) := by
  intro A l Q hp H
  refine t39 (d := 0) (BA a, BA b, ()) fun n hn => ?_
  unfold f39
  simp only [M.join, BA_size]
  refine ev_ite (fun h => ?_) fun h => ?_
  · rw [leB_nat, decide_eq_true_eq] at h
    refine ev_guard (by rw [upB_nat, decide_eq_true_eq]; exact h) ?_
    rw [Int.toNat_natCast, BA_extract, BA_seq, List.drop_zero]
    exact ev_pure (H A hp)
  · rw [leB_nat, decide_eq_false_iff_not] at h
    have : ¬ a.take b.length = b := fun e => by
      have := congrArg List.length e
      rw [List.length_take] at this
      omega
    rw [decide_eq_false this] at H
    exact ev_pure (H A hp)
theorem prefixG (a b : List UInt8) : Gives (tabsOf os) (XX os) 2 21 [.string (BA a), .string (BA b)] (.bool (decide (a.take b.length = b))) := by
  intro A l Q hp H
  refine t21 (d := 1) (BA a, BA b, ()) fun n hn => ?_
  unfold f21
  exact (prefixL a b).use hn hp rfl fun A' h' => ev_pure (H A' h')
theorem indexL (a : List UInt8) (c : UInt8) : Gives (tabsOf os) (XX os) 1 40 [.string (BA a), .int .u8 (c.toNat : Int)] (.int .i64 (Lib.indexByte a c)) := by
  intro A l Q hp H
  refine t40 (d := 0) (BA a, (c.toNat : Int), ()) fun n hn => ?_
  unfold f40
  refine ev_pure ?_
  simp only [BA_data, Int.toNat_natCast, Nat.toUInt8_eq, UInt8.ofNat_toNat]
  exact H A hp
theorem indexG (a : List UInt8) (c : UInt8) : Gives (tabsOf os) (XX os) 2 22 [.string (BA a), .int .u8 (c.toNat : Int)] (.int .i64 (Lib.indexByte a c)) := by
  intro A l Q hp H
  refine t22 (d := 1) (BA a, (c.toNat : Int), ()) fun n hn => ?_
  unfold f22
  exact (indexL a c).use hn hp rfl fun A' h' => ev_pure (H A' h')

/-! ### Runes -/
noncomputable def firstRow : Row := Row.ofList ((List.range 256).map fun c => .int .u8 (firstN c))
def accL : List Value := [.int .u8 128, .int .u8 191, .int .u8 160, .int .u8 191, .int .u8 128, .int .u8 159, .int .u8 144, .int .u8 191, .int .u8 128, .int .u8 143] ++ List.replicate 22 (.int .u8 0)
noncomputable def accRow : Row := Row.ofList accL
structure Runes (os : List (Nat × AObj)) : Prop where
  first : ∃ p, tabsOf os 0 = some (firstRow, p)
  acc : ∃ p, tabsOf os 1 = some (accRow, p)
theorem first_at {c : Nat} (h : c < 256) : (firstRow.list.drop c).take 1 = [.int .u8 (firstN c)] := by
  unfold firstRow
  rw [Row.ofList_list]
  apply List.ext_getElem?
  intro i
  rw [List.getElem?_take, List.getElem?_drop, List.getElem?_map]
  cases i with
  | zero => simp [List.getElem?_range h]
  | succ i => simp
theorem acc_at {i : Nat} (h : i < 5) : (accRow.list.drop (i * 2)).take 2 = [.int .u8 (accLo i), .int .u8 (accHi i)] := by
  unfold accRow
  rw [Row.ofList_list]
  match i, h with
  | 0, _ => rfl
  | 1, _ => rfl
  | 2, _ => rfl
  | 3, _ => rfl
  | 4, _ => rfl
theorem firstN_lt (c : Nat) : firstN c < 256 := by
  unfold firstN
  (repeat' split) <;> omega
theorem firstN_div {c : Nat} (h : firstN c < 240) : firstN c / 16 < 5 ∧ 2 ≤ firstN c % 8 ∧ firstN c % 8 ≤ 4 := by
  unfold firstN at h ⊢
  (repeat' split) <;> simp_all
theorem topI32 {a : Nat} (h : a < 2147483648) : a ≤ topK .i32 := by show a ≤ 2147483647; omega
theorem topU8 {a : Nat} (h : a < 256) : a ≤ topK .u8 := by show a ≤ 255; omega
def rv (p : Nat × Nat) : Value := .tuple ⟨[.int .i32 (p.1 : Int), .int .i64 (p.2 : Int)]⟩
theorem mask_out : ∀ c : Fin 256, orW .i32 (bitsV .andNot .i32 (wrapW .i32 (c.val : Int)) (-1)) (andW .i32 65533 (-1)) = 65533 := by decide +kernel
theorem sh_i32 {a k : Nat} (h : a * 2 ^ k < 2147483648) : IntKind.i32.wrap ((a : Int) * 2 ^ k) = ((a * 2 ^ k : Nat) : Int) := by
  rw [show (a : Int) * 2 ^ k = ((a * 2 ^ k : Nat) : Int) by simp]
  exact wrap_nat (topI32 h)
theorem low_u8 (c m k : Nat) (hc : c < 256) (hm : m = 2 ^ k - 1) (h : m < 256) : wrapW .i32 (andW .u8 (c : Int) (m : Int)) = ((c % 2 ^ k : Nat) : Int) := by
  rw [andW_nat .u8 (topU8 hc) (topU8 h), hm, and_low, wrapW_nat (topI32 (by have := Nat.mod_le c (2 ^ k); omega))]
theorem or_i32 {a b k : Nat} (h : b < 2 ^ k) (h2 : a * 2 ^ k + b < 2147483648) : orW .i32 ((a * 2 ^ k : Nat) : Int) (b : Int) = ((a * 2 ^ k + b : Nat) : Int) := by
  rw [orW_nat .i32 (topI32 (by omega)) (topI32 (by omega)), or_low h]
theorem rune2 {c x : Nat} (hc : c < 256) (hx : x < 256) : orW .i32 (IntKind.i32.wrap ((wrapW .i32 (andW .u8 (c : Int) 31)) * 2 ^ (min (Int.toNat 6) IntKind.i32.bits))) (wrapW .i32 (andW .u8 (x : Int) 63)) = ((c % 32 * 64 + x % 64 : Nat) : Int) := by
  have e1 := low_u8 c 31 5 hc rfl (by decide)
  have e2 := low_u8 x 63 6 hx rfl (by decide)
  have l1 := Nat.mod_lt c (show 0 < 2 ^ 5 by decide)
  have l2 := Nat.mod_lt x (show 0 < 2 ^ 6 by decide)
  rw [show ((31 : Nat) : Int) = 31 from rfl] at e1
  rw [show ((63 : Nat) : Int) = 63 from rfl] at e2
  rw [e1, e2, show min (Int.toNat 6) IntKind.i32.bits = 6 from rfl, sh_i32 (by omega), or_i32 l2 (by omega)]
theorem rune3 {c x y : Nat} (hc : c < 256) (hx : x < 256) (hy : y < 256) : orW .i32 (orW .i32 (IntKind.i32.wrap ((wrapW .i32 (andW .u8 (c : Int) 15)) * 2 ^ (min (Int.toNat 12) IntKind.i32.bits))) (IntKind.i32.wrap ((wrapW .i32 (andW .u8 (x : Int) 63)) * 2 ^ (min (Int.toNat 6) IntKind.i32.bits)))) (wrapW .i32 (andW .u8 (y : Int) 63))
    = ((c % 16 * 4096 + x % 64 * 64 + y % 64 : Nat) : Int) := by
  have e1 := low_u8 c 15 4 hc rfl (by decide)
  have e2 := low_u8 x 63 6 hx rfl (by decide)
  have e3 := low_u8 y 63 6 hy rfl (by decide)
  have l1 := Nat.mod_lt c (show 0 < 2 ^ 4 by decide)
  have l2 := Nat.mod_lt x (show 0 < 2 ^ 6 by decide)
  have l3 := Nat.mod_lt y (show 0 < 2 ^ 6 by decide)
  rw [show ((15 : Nat) : Int) = 15 from rfl] at e1
  rw [show ((63 : Nat) : Int) = 63 from rfl] at e2 e3
  rw [e1, e2, e3, show min (Int.toNat 6) IntKind.i32.bits = 6 from rfl, show min (Int.toNat 12) IntKind.i32.bits = 12 from rfl, sh_i32 (by omega), sh_i32 (by omega), or_i32 (by omega) (by omega),
    show c % 2 ^ 4 * 2 ^ 12 + x % 2 ^ 6 * 2 ^ 6 = (c % 2 ^ 4 * 64 + x % 2 ^ 6) * 2 ^ 6 by omega, or_i32 l3 (by omega)]
theorem rune4 {c x y z : Nat} (hc : c < 256) (hx : x < 256) (hy : y < 256) (hz : z < 256) : orW .i32 (orW .i32 (orW .i32 (IntKind.i32.wrap ((wrapW .i32 (andW .u8 (c : Int) 7)) * 2 ^ (min (Int.toNat 18) IntKind.i32.bits))) (IntKind.i32.wrap ((wrapW .i32 (andW .u8 (x : Int) 63)) * 2 ^ (min (Int.toNat 12) IntKind.i32.bits)))) (IntKind.i32.wrap ((wrapW .i32 (andW .u8 (y : Int) 63)) * 2 ^ (min (Int.toNat 6) IntKind.i32.bits)))) (wrapW .i32 (andW .u8 (z : Int) 63))
    = ((c % 8 * 262144 + x % 64 * 4096 + y % 64 * 64 + z % 64 : Nat) : Int) := by
  have e1 := low_u8 c 7 3 hc rfl (by decide)
  have e2 := low_u8 x 63 6 hx rfl (by decide)
  have e3 := low_u8 y 63 6 hy rfl (by decide)
  have e4 := low_u8 z 63 6 hz rfl (by decide)
  have l1 := Nat.mod_lt c (show 0 < 2 ^ 3 by decide)
  have l2 := Nat.mod_lt x (show 0 < 2 ^ 6 by decide)
  have l3 := Nat.mod_lt y (show 0 < 2 ^ 6 by decide)
  have l4 := Nat.mod_lt z (show 0 < 2 ^ 6 by decide)
  rw [show ((7 : Nat) : Int) = 7 from rfl] at e1
  rw [show ((63 : Nat) : Int) = 63 from rfl] at e2 e3 e4
  rw [e1, e2, e3, e4, show min (Int.toNat 6) IntKind.i32.bits = 6 from rfl, show min (Int.toNat 12) IntKind.i32.bits = 12 from rfl, show min (Int.toNat 18) IntKind.i32.bits = 18 from rfl, sh_i32 (by omega), sh_i32 (by omega), sh_i32 (by omega), or_i32 (by omega) (by omega),
    show c % 2 ^ 3 * 2 ^ 18 + x % 2 ^ 6 * 2 ^ 12 = (c % 2 ^ 3 * 64 + x % 2 ^ 6) * 2 ^ 12 by omega, or_i32 (by omega) (by omega),
    show (c % 2 ^ 3 * 64 + x % 2 ^ 6) * 2 ^ 12 + y % 2 ^ 6 * 2 ^ 6 = ((c % 2 ^ 3 * 64 + x % 2 ^ 6) * 64 + y % 2 ^ 6) * 2 ^ 6 by omega, or_i32 l4 (by omega)]
theorem slowL {l : List UInt8} (hl : l ≠ []) (h0 : 128 ≤ at' l 0) (hr : Runes os) : Gives (tabsOf os) (XX os) 1 42 [.string (BA l)] (rv (rune l)) := by
  intro A L Q hp H
  have b0 := at_lt l 0; have b1 := at_lt l 1; have b2 := at_lt l 2; have b3 := at_lt l 3
  have hlen : 0 < l.length := List.length_pos_iff.2 hl
  obtain ⟨p1, hf⟩ := hr.first
  obtain ⟨p2, ha⟩ := hr.acc
  refine t42 (d := 0) (BA l, ()) fun n hn => ?_
  unfold f42
  simp only [BA_size, at_byteAt0]
  refine ev_f (by rw [show (1 : Int) = ((1 : Nat) : Int) from rfl, ltB_nat, decide_eq_false_iff_not]; omega) ?_
  refine ev_guard (by rw [show (0 : Int) = ((0 : Nat) : Int) from rfl, inB_nat, decide_eq_true_eq]; exact hlen) ?_
  refine ev_guard (by rw [inB_nat, decide_eq_true_eq]; exact b0) ?_
  unfold f42c5
  rw [Int.toNat_natCast, Nat.mul_one, add0]
  have hfl : firstRow.list.length = 256 := by unfold firstRow; rw [Row.ofList_list]; simp
  refine ev_tab (x := ((firstN (at' l 0) : Nat) : Int)) hp hf rfl (by rw [hfl]; show at' l 0 + 1 ≤ 256; omega) (by rw [first_at b0]; rfl) (by rw [first_at b0]; rfl) ?_
  by_cases hx : firstN (at' l 0) < 240
  · refine ev_f (by rw [show (240 : Int) = ((240 : Nat) : Int) from rfl, leB_nat, decide_eq_false_iff_not]; omega) ?_
    obtain ⟨hd, hm⟩ := firstN_div hx
    rw [← slow_all hx] at H
    generalize firstN (at' l 0) = x at *
    unfold f42c4
    have e1 : wrapW .i64 (andW .u8 (x : Int) 7) = ((x % 8 : Nat) : Int) := by
      rw [show (7 : Int) = ((7 : Nat) : Int) from rfl, andW_nat .u8 (topU8 (by omega)) (topU8 (by decide)), show (7 : Nat) = 2 ^ 3 - 1 from rfl, and_low, wrapW_nat (by show _ ≤ 9223372036854775807; omega)]
    have e2 : ((x : Nat) : Int).fdiv (2 ^ (min (Int.toNat 4) IntKind.u8.bits)) = ((x / 16 : Nat) : Int) := fdiv_nat x 16
    simp only [e1, e2]
    refine ev_guard (by decide) (ev_guard (by rw [inB_nat, decide_eq_true_eq]; omega) ?_)
    rw [Int.toNat_natCast, add0]
    have hal : accRow.list.length = 32 := by unfold accRow; rw [Row.ofList_list]; rfl
    refine ev_tab (x := (((accLo (x / 16) : Nat) : Int), ((accHi (x / 16) : Nat) : Int), ())) hp ha rfl (by rw [hal]; show x / 16 * 2 + 2 ≤ 32; omega) (by rw [acc_at hd]; rfl) (by rw [acc_at hd]; rfl) ?_
    refine ev_new hp fun b A1 hp => ?_
    refine ev_store 0 hp rfl rfl (Nat.le_refl 2) rfl fun A2 hp => ?_
    replace hp : Hp _ A2 (.cells b [.int .u8 (accLo (x / 16) : Nat), .int .u8 (accHi (x / 16) : Nat)] _ _ _ _ :: L) := hp
    generalize elo : accLo (x / 16) = lo at *
    generalize ehi : accHi (x / 16) = hi at *
    unfold f42c3
    simp only [BA_size, at_byteAt1, M.join]
    have bad : ∀ A', Hp (tabsOf os) A' L → slowR l x = (65533, 1) → Q (rv (65533, 1)) A' := fun A' h' e => e ▸ H A' h'
    refine ev_ite (fun h => ?_) fun h => ?_
    · rw [ltB_nat, decide_eq_true_eq] at h
      exact ev_pure (bad _ hp.tail (by unfold slowR; rw [if_pos h]))
    · rw [ltB_nat, decide_eq_false_iff_not] at h
      have s1 : slowR l x = slowR l x := rfl
      conv at s1 =>
        rhs
        unfold slowR
      rw [if_neg h, elo, ehi] at s1
      refine ev_guard (by rw [show (1 : Int) = ((1 : Nat) : Int) from rfl, inB_nat, decide_eq_true_eq]; omega) ?_
      refine ev_load 0 hp rfl rfl rfl (Nat.le_of_ble_eq_true rfl) rfl ?_
      refine ev_ite (fun h1 => ?_) fun h1 => ?_
      · rw [ltB_nat, decide_eq_true_eq] at h1
        exact ev_t rfl (ev_pure (bad _ hp.tail (by rw [s1, if_pos (by simp [h1])])))
      rw [ltB_nat, decide_eq_false_iff_not] at h1
      refine ev_load 0 hp rfl rfl rfl (Nat.le_of_ble_eq_true rfl) rfl ?_
      refine ev_ite (fun h2 => ?_) fun h2 => ?_
      · rw [ltB_nat, decide_eq_true_eq] at h2
        exact ev_pure (bad _ hp.tail (by rw [s1, if_pos (by simp [h2])]))
      rw [ltB_nat, decide_eq_false_iff_not] at h2
      rw [if_neg (by simp; omega)] at s1
      unfold f42c2
      refine ev_ite (fun h3 => ?_) fun h3 => ?_
      · rw [show (2 : Int) = ((2 : Nat) : Int) from rfl, leB_nat, decide_eq_true_eq] at h3
        rw [if_pos h3] at s1
        refine ev_guard (by decide) (ev_pure ?_)
        have := H _ hp.tail
        rw [s1] at this
        rw [rune2 b0 b1]
        exact this
      rw [show (2 : Int) = ((2 : Nat) : Int) from rfl, leB_nat, decide_eq_false_iff_not] at h3
      rw [if_neg h3] at s1
      simp only [BA_size, at_byteAt2, M.join]
      refine ev_guard (by rw [show (2 : Int) = ((2 : Nat) : Int) from rfl, inB_nat, decide_eq_true_eq]; omega) ?_
      refine ev_ite (fun h4 => ?_) fun h4 => ?_
      · rw [show (128 : Int) = ((128 : Nat) : Int) from rfl, ltB_nat, decide_eq_true_eq] at h4
        exact ev_t rfl (ev_pure (bad _ hp.tail (by rw [s1, if_pos (by simp [tailB, h4])])))
      rw [show (128 : Int) = ((128 : Nat) : Int) from rfl, ltB_nat, decide_eq_false_iff_not] at h4
      refine ev_ite (fun h5 => ?_) fun h5 => ?_
      · rw [show (191 : Int) = ((191 : Nat) : Int) from rfl, ltB_nat, decide_eq_true_eq] at h5
        exact ev_pure (bad _ hp.tail (by rw [s1, if_pos (by simp [tailB, h5])]))
      rw [show (191 : Int) = ((191 : Nat) : Int) from rfl, ltB_nat, decide_eq_false_iff_not] at h5
      rw [if_neg (by simp [tailB]; omega)] at s1
      unfold f42c1
      refine ev_ite (fun h6 => ?_) fun h6 => ?_
      · rw [show (3 : Int) = ((3 : Nat) : Int) from rfl, leB_nat, decide_eq_true_eq] at h6
        rw [if_pos h6] at s1
        refine ev_guard (by decide) (ev_guard (by decide) (ev_pure ?_))
        have := H _ hp.tail
        rw [s1] at this
        rw [rune3 b0 b1 b2]
        exact this
      rw [show (3 : Int) = ((3 : Nat) : Int) from rfl, leB_nat, decide_eq_false_iff_not] at h6
      rw [if_neg h6] at s1
      simp only [BA_size, at_byteAt3, M.join]
      refine ev_guard (by rw [show (3 : Int) = ((3 : Nat) : Int) from rfl, inB_nat, decide_eq_true_eq]; omega) ?_
      unfold f42c0
      refine ev_ite (fun h7 => ?_) fun h7 => ?_
      · rw [show (128 : Int) = ((128 : Nat) : Int) from rfl, ltB_nat, decide_eq_true_eq] at h7
        exact ev_t rfl (ev_pure (bad _ hp.tail (by rw [s1, if_pos (by simp [tailB, h7])])))
      rw [show (128 : Int) = ((128 : Nat) : Int) from rfl, ltB_nat, decide_eq_false_iff_not] at h7
      refine ev_ite (fun h8 => ?_) fun h8 => ?_
      · rw [show (191 : Int) = ((191 : Nat) : Int) from rfl, ltB_nat, decide_eq_true_eq] at h8
        exact ev_pure (bad _ hp.tail (by rw [s1, if_pos (by simp [tailB, h8])]))
      rw [show (191 : Int) = ((191 : Nat) : Int) from rfl, ltB_nat, decide_eq_false_iff_not] at h8
      rw [if_neg (by simp [tailB]; omega)] at s1
      refine ev_guard (by decide) (ev_guard (by decide) (ev_guard (by decide) (ev_pure ?_)))
      have := H _ hp.tail
      rw [s1] at this
      rw [rune4 b0 b1 b2 b3]
      exact this
  · obtain ⟨e, hb⟩ := firstN_bad h0 hx
    rw [rune_bad h0 hb] at H
    rw [e]
    refine ev_t (by decide) (ev_guard (by decide) (ev_guard (by decide) (ev_guard (by rw [show (0 : Int) = ((0 : Nat) : Int) from rfl, inB_nat, decide_eq_true_eq]; exact hlen) (ev_pure ?_))))
    have := mask_out ⟨at' l 0, b0⟩
    have em : (((IntKind.i32.wrap ((wrapW .i32 ((241 : Nat) : Int)) * 2 ^ (min (Int.toNat 31) IntKind.i32.bits))) : Int)).fdiv (2 ^ (min (Int.toNat 31) IntKind.i32.bits)) = -1 := by decide +kernel
    simp only [em, at_byteAt0]
    rw [this]
    exact H A hp
theorem decodeG {l : List UInt8} (hl : l ≠ []) (hr : Runes os) : Gives (tabsOf os) (XX os) 2 24 [.string (BA l)] (rv (rune l)) := by
  intro A L Q hp H
  have b0 := at_lt l 0
  have hlen : 0 < l.length := List.length_pos_iff.2 hl
  refine t24 (d := 1) (BA l, ()) fun n hn => ?_
  unfold f24
  simp only [BA_size, at_byteAt0, M.join]
  refine ev_t (by rw [show st0 = BA [] from rfl, BA_seq, decide_eq_false hl]; rfl) ?_
  refine ev_guard (by rw [show (0 : Int) = ((0 : Nat) : Int) from rfl, inB_nat, decide_eq_true_eq]; exact hlen) ?_
  refine ev_ite (fun h => ?_) fun h => ?_
  · rw [show (128 : Int) = ((128 : Nat) : Int) from rfl, ltB_nat, decide_eq_true_eq] at h
    rw [rune_one h] at H
    refine ev_guard (by rw [show (0 : Int) = ((0 : Nat) : Int) from rfl, inB_nat, decide_eq_true_eq]; exact hlen) (ev_pure ?_)
    rw [wrapW_nat (topI32 (by omega))]
    exact H A hp
  · rw [show (128 : Int) = ((128 : Nat) : Int) from rfl, ltB_nat, decide_eq_false_iff_not] at h
    exact (slowL hl (by omega) hr).use hn hp rfl fun A' h' => ev_pure (H A' h')
end
end Go.Proofs.YtlcigkdflbfdgaaDoor.sb
namespace Go.Proofs.YtlcigkdflbfdgaaDoor.sb
set_option linter.unusedVariables false
open Go Go.Eng Go.Sh
section
variable {os : List (Nat × AObj)} {A : AW} {Q : Value → AW → Prop} {l : List Thing}
/-- A Builder that lies at b, and its bytes. -/
abbrev bldr (b : Nat) (p a : Option Addr) (bs : List UInt8) (l : List Thing) : List Thing := .cells b [.pointer p, .slice a bs.length bs.length] 51 false (0, 0) false :: .vec 5 1 false a bs.length bs.length (u8s bs) :: l
theorem veqv_slice (a : Option Addr) (n c : Nat) : veqv (.slice a n c) (.slice a n c) = true := by
  simp [veqv, veq1]
theorem copyG {b : Nat} {p : Option Addr} {v : Value} (hp : Hp (tabsOf os) A (.cells b [.pointer p, v] 51 false (0, 0) false :: l)) (h : p = none ∨ p = some ⟨b, 0, none⟩)
    (H : ∀ A', Hp (tabsOf os) A' (.cells b [.pointer (some ⟨b, 0, none⟩), v] 51 false (0, 0) false :: l) → Q (.tuple ⟨[]⟩) A') : Goes (XX os) 1 41 [.pointer (some ⟨b, 0, none⟩)] A Q := by
  refine t41 (d := 0) (some ⟨b, 0, none⟩, ()) fun n hn => ?_
  unfold f41
  refine ev_load 0 hp rfl rfl rfl (Nat.le_of_ble_eq_true rfl) rfl (ev_eqPtr_nil ?_)
  rcases h with rfl | rfl
  · refine ev_t rfl ?_
    refine ev_unsafe 0 hp rfl (t := 51) (by kernel_rfl) (by kernel_rfl) (Nat.le_of_ble_eq_true rfl) (by kernel_rfl) ?_
    refine ev_unsafe_back 0 hp rfl (t := 51) (by kernel_rfl) (by kernel_rfl) (by kernel_rfl) (by kernel_rfl) ?_
    exact ev_store 0 hp rfl rfl (Nat.le_of_ble_eq_true rfl) rfl fun A1 hp => ev_pure (H A1 hp)
  · refine ev_f rfl ?_
    refine ev_load 0 hp rfl rfl rfl (Nat.le_of_ble_eq_true rfl) rfl (ev_eqPtr_same 0 hp rfl ?_)
    exact ev_f rfl (ev_pure (H A hp))
theorem writeByteG {b : Nat} {p a : Option Addr} {bs : List UInt8} (c : UInt8) (hp : Hp (tabsOf os) A (bldr b p a bs l)) (h : p = none ∨ p = some ⟨b, 0, none⟩) (hb : bs.length < 2 ^ 40)
    (H : ∀ A' a', Hp (tabsOf os) A' (bldr b (some ⟨b, 0, none⟩) a' (bs ++ [c]) l) → Q .nilIface A') : Goes (XX os) 2 23 [.pointer (some ⟨b, 0, none⟩), .int .u8 (c.toNat : Int)] A Q := by
  refine t23 (d := 1) (some ⟨b, 0, none⟩, (c.toNat : Int), ()) fun n hn => ?_
  unfold f23
  refine (copyG hp h fun A1 hp => ⟨(), rfl, ?_⟩).use hn
  refine ev_load 0 hp rfl rfl rfl (Nat.le_of_ble_eq_true rfl) rfl ?_
  refine ev_new hp fun b3 A2 hp => ?_
  refine ev_append_row 2 0 hp rfl rfl rfl (Nat.le_refl _) (Nat.le_refl _) (by show (2 * (bs.length + 1) + 200) * 1 ≤ 2 ^ 48; omega) rfl fun A3 a' hp => ?_
  refine ev_store 1 hp rfl rfl (Nat.le_of_ble_eq_true rfl) rfl fun A4 hp => ev_pure (H A4 a' ?_)
  have e : (bs ++ [c]).length = bs.length + 1 := by simp
  unfold bldr
  rw [e, u8s_append]
  exact hp.tail
theorem writeStringG {b : Nat} {p a : Option Addr} {bs : List UInt8} (s : List UInt8) (hp : Hp (tabsOf os) A (bldr b p a bs l)) (h : p = none ∨ p = some ⟨b, 0, none⟩) (hb : bs.length + s.length < 2 ^ 40)
    (H : ∀ A' a', Hp (tabsOf os) A' (bldr b (some ⟨b, 0, none⟩) a' (bs ++ s) l) → Q (.tuple ⟨[.int .i64 (s.length : Int), .nilIface]⟩) A') : Goes (XX os) 2 26 [.pointer (some ⟨b, 0, none⟩), .string (BA s)] A Q := by
  refine t26 (d := 1) (some ⟨b, 0, none⟩, BA s, ()) fun n hn => ?_
  unfold f26
  refine (copyG hp h fun A1 hp => ⟨(), rfl, ?_⟩).use hn
  refine ev_load 0 hp rfl rfl rfl (Nat.le_of_ble_eq_true rfl) rfl ?_
  refine ev_append_str 1 hp rfl (by show (2 * (bs.length + s.length) + 200) * 1 ≤ 2 ^ 48; omega) fun A3 a' hp => ?_
  refine ev_store 0 hp rfl rfl (Nat.le_of_ble_eq_true rfl) rfl fun A4 hp => ev_pure (H A4 a' ?_)
  have e : (bs ++ s).length = bs.length + s.length := List.length_append
  unfold bldr
  rw [e, u8s_append]
  exact hp
theorem stringG {b : Nat} {p a : Option Addr} {bs : List UInt8} (hp : Hp (tabsOf os) A (bldr b p a bs l)) (hb : bs.length < 2 ^ 40) (hna : a = none ∨ 1 ≤ bs.length)
    (H : ∀ A', Hp (tabsOf os) A' l → Q (.string (BA bs)) A') : Goes (XX os) 1 28 [.pointer (some ⟨b, 0, none⟩)] A Q := by
  refine t28 (d := 0) (some ⟨b, 0, none⟩, ()) fun n hn => ?_
  unfold f28
  refine ev_load 0 hp rfl rfl rfl (Nat.le_of_ble_eq_true rfl) rfl ?_
  refine ev_load 0 hp rfl rfl rfl (Nat.le_of_ble_eq_true rfl) rfl ?_
  refine ev_sliceData hna ?_
  refine ev_load 0 hp rfl rfl rfl (Nat.le_of_ble_eq_true rfl) rfl ?_
  refine ev_cond_t (veqv_slice _ _ _) ?_
  refine ev_unsafeString 1 hp rfl (u := 5) (by kernel_rfl) (by kernel_rfl) (by kernel_rfl) (by show bs.length < _; omega) hna fun A1 hp => ev_pure ?_
  exact H A1 hp.tail
theorem lenG {b : Nat} {p a : Option Addr} {bs : List UInt8} (hp : Hp (tabsOf os) A (bldr b p a bs l)) (H : ∀ A', Hp (tabsOf os) A' (bldr b p a bs l) → Q (.int .i64 (bs.length : Int)) A') : Goes (XX os) 1 44 [.pointer (some ⟨b, 0, none⟩)] A Q := by
  refine t44 (d := 0) (some ⟨b, 0, none⟩, ()) fun n hn => ?_
  unfold f44
  exact ev_load 0 hp rfl rfl rfl (Nat.le_of_ble_eq_true rfl) rfl (ev_pure (H A hp))
theorem wrapU8 (a : Nat) : wrapW .u8 (a : Int) = ((a % 256 : Nat) : Int) := by
  rw [wrapW_eq]
  simp only [IntKind.wrap, show IntKind.u8.bits = 8 from rfl, show IntKind.u8.signed = false from rfl, Bool.false_and, Bool.false_eq_true, if_false]
  omega
theorem contB (q : Nat) : orW .u8 128 (andW .u8 (wrapW .u8 (q : Int)) 63) = ((128 + q % 64 : Nat) : Int) := by
  rw [wrapU8, show (63 : Int) = ((63 : Nat) : Int) from rfl, andW_nat .u8 (topU8 (by omega)) (topU8 (by decide)), show (63 : Nat) = 2 ^ 6 - 1 from rfl, and_low, show (128 : Int) = ((2 * 2 ^ 6 : Nat) : Int) from rfl,
    orW_nat .u8 (topU8 (by decide)) (topU8 (by omega)), or_low (by omega)]
  exact congrArg _ (by omega)
theorem leadB (a k : Nat) {q : Nat} (hq : q < 2 ^ k) (h : a * 2 ^ k + q < 256) : orW .u8 ((a * 2 ^ k : Nat) : Int) (wrapW .u8 (q : Int)) = ((a * 2 ^ k + q : Nat) : Int) := by
  rw [wrapU8, Nat.mod_eq_of_lt (by omega), orW_nat .u8 (topU8 (by omega)) (topU8 (by omega)), or_low hq]
theorem shr (r k : Nat) : ((r : Nat) : Int).fdiv (2 ^ k) = ((r / 2 ^ k : Nat) : Int) := by
  have := fdiv_nat r (2 ^ k)
  rw [← this]
  simp
theorem u8v (n : Nat) (h : n < 256) : (Value.int .u8 (n : Int)) = .int .u8 ((UInt8.ofNat n).toNat : Int) := by
  rw [UInt8.toNat_ofNat', Nat.mod_eq_of_lt h]
/-- A rune behind a slice of bytes: valid ones alone. -/
theorem appendRuneG {a : Option Addr} {ish : Bool} {bs : List UInt8} {r : Nat} (hp : Hp (tabsOf os) A (.vec 5 1 ish a bs.length bs.length (u8s bs) :: l)) (hv : Utf8.valid (r : Int) = true) (hb : bs.length < 2 ^ 40)
    (H : ∀ A' a' m, m = (bs ++ (Utf8.encode (r : Int)).data.toList).length → Hp (tabsOf os) A' (.vec 5 1 ish a' m m (u8s (bs ++ (Utf8.encode (r : Int)).data.toList)) :: l) → Q (.slice a' m m) A') : Goes (XX os) 2 43 [.slice a bs.length bs.length, .int .i32 (r : Int)] A Q := by
  have hr : r < 0xD800 ∨ (0xE000 ≤ r ∧ r ≤ 0x10FFFF) := (valid_nat r).1 hv
  have er : Utf8.encode (r : Int) = Utf8.encode (r : Int) := rfl
  conv at er =>
    rhs
    unfold Utf8.encode
  rw [if_pos hv, Int.toNat_natCast] at er
  have key : ∀ {Q' : Value → AW → Prop} (cs : List UInt8), (Utf8.encode (r : Int)).data.toList = cs → cs.length ≤ 4 → ∀ (A1 : AW) (b3 : Nat) (vs : List Value) (K : Option Addr → Nat → Nat → M Value), vs = u8s cs → Hp (tabsOf os) A1 (.cells b3 vs 5 false (0, 0) false :: .vec 5 1 ish a bs.length bs.length (u8s bs) :: l) →
      (∀ a' m A', Hp (tabsOf os) A' (.vec 5 1 ish a' m m (u8s (bs ++ cs)) :: l) → m = (bs ++ cs).length → Ev (K a' m m) A' Q') → Ev (M.append 5 1 1 a bs.length bs.length (.slice (some (Addr.mk b3 0 none)) cs.length cs.length) K) A1 Q' := by
    intro Q' cs hcs hl A1 b3 vs K hvs hp HK
    subst hvs
    refine ev_append_row 1 0 hp rfl rfl (by rw [u8s_length, Nat.mul_one]) (Nat.le_refl _) (Nat.le_refl _) (by omega) (u8s_one _) fun A3 a' hp => ?_
    have e : (bs ++ cs).length = bs.length + cs.length := List.length_append
    have := HK a' (bs.length + cs.length) A3 (by rw [u8s_append]; exact hp.tail) e.symm
    exact this
  refine t43 (d := 1) ((a, bs.length, bs.length), (r : Int), ()) fun n hn => ?_
  unfold f43
  have hw : wrapW .u32 (r : Int) = (r : Int) := wrapW_nat (by show r ≤ 4294967295; omega)
  simp only [hw]
  refine ev_ite (fun h => ?_) fun h => ?_
  · rw [show (127 : Int) = ((127 : Nat) : Int) from rfl, leB_nat, decide_eq_true_eq] at h
    rw [if_pos (by omega)] at er
    refine ev_new hp fun b3 A2 hp => ?_
    refine key [UInt8.ofNat r] (by rw [er]) (Nat.le_of_ble_eq_true rfl) A2 b3 _ _ (by rw [wrapU8, Nat.mod_eq_of_lt (by omega), u8v r (by omega)]; rfl) hp fun a' m A' h' hm => ev_pure (H A' a' m (by rw [er]; exact hm) (by rw [er]; exact h'))
  rw [show (127 : Int) = ((127 : Nat) : Int) from rfl, leB_nat, decide_eq_false_iff_not] at h
  refine Goes.use (d := 1) ?_ hn
  refine t62 (d := 0) ((a, bs.length, bs.length), (r : Int), ()) fun n hn => ?_
  unfold f62 f62c3
  simp only [hw]
  refine ev_ite (fun h2 => ?_) fun h2 => ?_
  · rw [show (2047 : Int) = ((2047 : Nat) : Int) from rfl, leB_nat, decide_eq_true_eq] at h2
    rw [if_neg (by omega), if_pos (by omega)] at er
    refine ev_guard (by decide) (ev_new hp fun b3 A2 hp => ?_)
    refine key [UInt8.ofNat (192 + r / 64), UInt8.ofNat (128 + r % 64)] (by rw [er]) (Nat.le_of_ble_eq_true rfl) A2 b3 _ _ ?_ hp fun a' m A' h' hm => ev_pure ⟨_, rfl, ev_pure (H A' a' m (by rw [er]; exact hm) (by rw [er]; exact h'))⟩
    have e1 : ((r : Nat) : Int).fdiv (2 ^ min (Int.toNat 6) IntKind.i32.bits) = ((r / 64 : Nat) : Int) := shr r 6
    rw [e1, contB, show (192 : Int) = ((6 * 2 ^ 5 : Nat) : Int) from rfl, leadB 6 5 (by omega) (by omega), u8v (6 * 2 ^ 5 + r / 64) (by omega), u8v (128 + r % 64) (by omega)]
    rfl
  rw [show (2047 : Int) = ((2047 : Nat) : Int) from rfl, leB_nat, decide_eq_false_iff_not] at h2
  have three : r < 65536 → Ev (f62c0 (XX os n) LL ((a, bs.length, bs.length), (r : Int), ())) A (fun v A' => ∃ x, (RSh.one (.cell .slice)).prj v = some x ∧ Ev (M.pure (.slice x.1 x.2.1 x.2.2)) A' Q) := fun h3 => by
    rw [if_neg (by omega), if_neg (by omega), if_pos (by omega)] at er
    unfold f62c0
    refine ev_guard (by decide) (ev_guard (by decide) (ev_new hp fun b3 A2 hp => ?_))
    refine key [UInt8.ofNat (224 + r / 4096), UInt8.ofNat (128 + r / 64 % 64), UInt8.ofNat (128 + r % 64)] (by rw [er]) (Nat.le_of_ble_eq_true rfl) A2 b3 _ _ ?_ hp fun a' m A' h' hm => ev_pure ⟨_, rfl, ev_pure (H A' a' m (by rw [er]; exact hm) (by rw [er]; exact h'))⟩
    have e1 : ((r : Nat) : Int).fdiv (2 ^ min (Int.toNat 6) IntKind.i32.bits) = ((r / 64 : Nat) : Int) := shr r 6
    have e2 : ((r : Nat) : Int).fdiv (2 ^ min (Int.toNat 12) IntKind.i32.bits) = ((r / 4096 : Nat) : Int) := shr r 12
    simp only [e1, e2]
    rw [contB, contB, show (224 : Int) = ((14 * 2 ^ 4 : Nat) : Int) from rfl, leadB 14 4 (by omega) (by omega), u8v (14 * 2 ^ 4 + r / 4096) (by omega), u8v (128 + r / 64 % 64) (by omega), u8v (128 + r % 64) (by omega)]
    rfl
  simp only [M.join]
  refine ev_ite (fun h3 => ?_) fun h3 => ?_
  · rw [show (55296 : Int) = ((55296 : Nat) : Int) from rfl, ltB_nat, decide_eq_true_eq] at h3
    exact ev_t rfl (three (by omega))
  rw [show (55296 : Int) = ((55296 : Nat) : Int) from rfl, ltB_nat, decide_eq_false_iff_not] at h3
  refine ev_t (by rw [show (57343 : Int) = ((57343 : Nat) : Int) from rfl, ltB_nat, decide_eq_true_eq]; omega) ?_
  refine ev_ite (fun h4 => ?_) fun h4 => ?_
  · rw [show (65535 : Int) = ((65535 : Nat) : Int) from rfl, leB_nat, decide_eq_true_eq] at h4
    exact three (by omega)
  rw [show (65535 : Int) = ((65535 : Nat) : Int) from rfl, leB_nat, decide_eq_false_iff_not] at h4
  unfold f62c2
  simp only [M.join]
  refine ev_t (by rw [show (65535 : Int) = ((65535 : Nat) : Int) from rfl, ltB_nat, decide_eq_true_eq]; omega) ?_
  refine ev_t (by rw [show (1114111 : Int) = ((1114111 : Nat) : Int) from rfl, leB_nat, decide_eq_true_eq]; omega) ?_
  refine ev_guard (by decide) ?_
  unfold f62c1
  rw [if_neg (by omega), if_neg (by omega), if_neg (by omega)] at er
  refine ev_guard (by decide) (ev_guard (by decide) (ev_new hp fun b3 A2 hp => ?_))
  refine key [UInt8.ofNat (240 + r / 262144), UInt8.ofNat (128 + r / 4096 % 64), UInt8.ofNat (128 + r / 64 % 64), UInt8.ofNat (128 + r % 64)] (by rw [er]) (Nat.le_of_ble_eq_true rfl) A2 b3 _ _ ?_ hp fun a' m A' h' hm => ev_pure ⟨_, rfl, ev_pure (H A' a' m (by rw [er]; exact hm) (by rw [er]; exact h'))⟩
  have e1 : ((r : Nat) : Int).fdiv (2 ^ min (Int.toNat 6) IntKind.i32.bits) = ((r / 64 : Nat) : Int) := shr r 6
  have e2 : ((r : Nat) : Int).fdiv (2 ^ min (Int.toNat 12) IntKind.i32.bits) = ((r / 4096 : Nat) : Int) := shr r 12
  have e3 : ((r : Nat) : Int).fdiv (2 ^ min (Int.toNat 18) IntKind.i32.bits) = ((r / 262144 : Nat) : Int) := shr r 18
  simp only [e1, e2, e3]
  rw [contB, contB, contB, show (240 : Int) = ((30 * 2 ^ 3 : Nat) : Int) from rfl, leadB 30 3 (by omega) (by omega), u8v (30 * 2 ^ 3 + r / 262144) (by omega), u8v (128 + r / 4096 % 64) (by omega), u8v (128 + r / 64 % 64) (by omega), u8v (128 + r % 64) (by omega)]
  rfl
theorem writeRuneG {b : Nat} {p a : Option Addr} {bs : List UInt8} {r : Nat} (hp : Hp (tabsOf os) A (bldr b p a bs l)) (h : p = none ∨ p = some ⟨b, 0, none⟩) (hv : Utf8.valid (r : Int) = true) (hb : bs.length < 2 ^ 40)
    (H : ∀ A' a' v, Hp (tabsOf os) A' (bldr b (some ⟨b, 0, none⟩) a' (bs ++ (Utf8.encode (r : Int)).data.toList) l) → Q (.tuple ⟨[.int .i64 v, .nilIface]⟩) A') : Goes (XX os) 3 27 [.pointer (some ⟨b, 0, none⟩), .int .i32 (r : Int)] A Q := by
  refine t27 (d := 2) (some ⟨b, 0, none⟩, (r : Int), ()) fun n hn => ?_
  unfold f27
  refine ((copyG hp h fun A1 hp => ⟨(), rfl, ?_⟩).mono (show 1 ≤ 2 by decide)).use hn
  unfold f27c0
  refine ev_load 0 hp rfl rfl rfl (Nat.le_of_ble_eq_true rfl) rfl ?_
  refine ev_load 0 hp rfl rfl rfl (Nat.le_of_ble_eq_true rfl) rfl ?_
  refine (appendRuneG (hp.front 1 rfl) hv hb fun A' a' m hm hp => ⟨(a', m, m), rfl, ?_⟩).use hn
  refine ev_store 1 hp rfl rfl (Nat.le_of_ble_eq_true rfl) rfl fun A4 hp => ?_
  refine ev_load 1 hp rfl rfl rfl (Nat.le_of_ble_eq_true rfl) rfl ?_
  refine ev_pure (H A4 a' _ ?_)
  unfold bldr
  rw [← hm]
  exact hp.front 1 rfl
end
end Go.Proofs.YtlcigkdflbfdgaaDoor.sb
namespace Go.Proofs.YtlcigkdflbfdgaaDoor.sb
set_option linter.unusedVariables false
open Go Go.Eng Go.Sh
section
variable {os : List (Nat × AObj)} {A : AW} {Q : Value → AW → Prop} {l : List Thing}
theorem ev_LL {σ ρ : Type} {f : σ → M (σ ⊕ ρ)} {A : AW} {Q : ρ → AW → Prop} {s : σ} {m : Nat} (Inv : Nat → σ → AW → Prop) (h : Inv m s A) (hm : m < 1000000000000)
    (step : ∀ m s A, Inv m s A → Ev (f s) A (Round (fun s' A' => ∃ m', m' < m ∧ Inv m' s' A') Q)) : Ev (LL f s) A Q := ev_loop Inv step h hm
theorem decode_BA (s : List UInt8) (i : Nat) : Utf8.decode (BA s) i = rune (s.drop i) := by
  rw [decode_eq, dec_rune]; rfl
theorem drop_cons {s : List UInt8} {i : Nat} (h : i < s.length) : ∃ c t, s.drop i = c :: t := by
  cases hd : s.drop i with
  | nil =>
    have := congrArg List.length hd
    rw [List.length_drop] at this
    have h9 : s.length - i = 0 := this
    omega
  | cons c t => exact ⟨c, t, rfl⟩
theorem rune_len_drop {s : List UInt8} {i : Nat} (h : i < s.length) : i + (rune (s.drop i)).2 ≤ s.length := by
  obtain ⟨c, t, e⟩ := drop_cons h
  have := rune_len (l := s.drop i) (by rw [e]; simp)
  rw [List.length_drop] at this
  omega
theorem wholeG (s : List UInt8) (hs : s.length < 2 ^ 38) (hr : Runes os) : Gives (tabsOf os) (XX os) 3 25 [.string (BA s)] (.bool (whole s)) := by
  intro A l Q hp H
  refine t25 (d := 2) (BA s, ()) fun n hn => ?_
  unfold f25
  refine ev_iter hp fun b A1 hp => ?_
  unfold f25c0
  refine ev_bind (ev_LL (fun m _ A' => ∃ pos, m = s.length - pos ∧ pos ≤ s.length ∧ Hp (tabsOf os) A' (.iter b (BA s) pos :: l) ∧ whole s = whole (s.drop pos)) (m := s.length) ⟨0, rfl, by omega, hp, rfl⟩ (by omega) ?_)
  rintro m _ A2 ⟨pos, rfl, hpos, hp, hw⟩
  refine ev_next 0 hp rfl (fun hge => ?_) fun hlt A3 hp => ?_
  · refine ev_pure (ev_pure ?_)
    rw [BA_size] at hge
    rw [List.drop_of_length_le hge, whole] at hw
    rw [hw] at H
    exact H A2 hp.tail
  rw [BA_size] at hlt
  rw [decode_BA] at hp ⊢
  have hle := rune_len_drop hlt
  obtain ⟨c, t, e⟩ := drop_cons hlt
  have hpos2 := rune_pos (s.drop pos)
  simp only [upB_nat, BA_size]
  refine ev_guard (decide_eq_true (by omega)) ?_
  rw [Int.toNat_natCast, BA_till]
  refine (decodeG (l := s.drop pos) (by rw [e]; simp) hr).use hn hp rfl fun A4 hp => ?_
  simp only [M.join]
  have hstep := hw
  rw [e, whole, ← e] at hstep
  refine ev_ite (fun h => ?_) fun h => ?_
  · rw [show (65533 : Int) = ((65533 : Nat) : Int) from rfl, eqB_nat, decide_eq_true_eq] at h
    refine ev_ite (fun h2 => ?_) fun h2 => ?_
    · rw [show (1 : Int) = ((1 : Nat) : Int) from rfl, eqB_nat, decide_eq_true_eq] at h2
      rw [if_pos ⟨h, h2⟩] at hstep
      rw [hstep] at H
      exact ev_pure (ev_pure (H A4 hp.tail))
    · rw [show (1 : Int) = ((1 : Nat) : Int) from rfl, eqB_nat, decide_eq_false_iff_not] at h2
      rw [if_neg (fun q => h2 q.2), List.drop_drop] at hstep
      exact ev_pure ⟨_, by omega, _, rfl, hle, hp, hstep⟩
  · rw [show (65533 : Int) = ((65533 : Nat) : Int) from rfl, eqB_nat, decide_eq_false_iff_not] at h
    rw [if_neg (fun q => h q.1), List.drop_drop] at hstep
    exact ev_f rfl (ev_pure ⟨_, by omega, _, rfl, hle, hp, hstep⟩)
theorem hex_at : ∀ n : Fin 16, byteAt st1 (n.val : Int) = ((hexd n.val).toNat : Int) := by decide +kernel
theorem app3 {α : Type} (a : List α) (x : α) (b c : List α) : a ++ (x :: b ++ c) = (a ++ [x] ++ b) ++ c := by simp
theorem quoteGG (s : List UInt8) (hs : s.length < 2 ^ 37) (hr : Runes os) : Gives (tabsOf os) (XX os) 4 9 [.string (BA s)] (.string (BA (word s))) := by
  intro A l Q hp H
  refine t9 (d := 3) (BA s, ()) fun n hn => ?_
  unfold f9
  refine ev_new hp fun b0 A1 hp => ?_
  have hp := (hp.vec0 5 1 false).front 1 rfl
  refine (writeByteG (bs := []) 34 hp (.inl rfl) (by show 0 < 2 ^ 40; omega) fun A2 a2 hp => ⟨_, rfl, ?_⟩).mono (show 2 ≤ 3 by decide) |>.use hn
  refine ev_iter hp fun b2 A3 hp => ?_
  unfold f9c3
  refine ev_bind (ev_LL (fun m _ A' => ∃ pos a bs, m = s.length - pos ∧ pos ≤ s.length ∧ Hp (tabsOf os) A' (.iter b2 (BA s) pos :: bldr b0 (some ⟨b0, 0, none⟩) a bs l) ∧ 34 :: quoteG s = bs ++ quoteG (s.drop pos) ∧ bs.length ≤ 1 + 4 * pos ∧ 1 ≤ bs.length) (m := s.length)
    ⟨0, a2, [34], rfl, by omega, hp, rfl, by simp, by simp⟩ (by omega) ?_)
  rintro m _ A4 ⟨pos, a, bs, rfl, hpos, hp, hw, hlb, hl1⟩
  refine ev_next 0 hp rfl (fun hge => ?_) fun hlt A5 hp => ?_
  · refine ev_pure ?_
    rw [BA_size] at hge
    rw [List.drop_of_length_le hge, quoteG, List.append_nil] at hw
    refine (writeByteG 34 hp.tail (.inr rfl) (by omega) fun A6 a6 hp => ⟨_, rfl, ?_⟩).mono (show 2 ≤ 3 by decide) |>.use hn
    refine (stringG hp (by simp; omega) (.inr (by simp)) fun A7 hp => ⟨_, rfl, ev_pure ?_⟩).mono (show 1 ≤ 3 by decide) |>.use hn
    have e : bs ++ [34] = word s := by rw [← hw, quoteG_eq s.length s (Nat.le_refl _)]; rfl
    rw [e]
    exact H A7 hp
  rw [BA_size] at hlt
  rw [decode_BA] at hp ⊢
  have hle := rune_len_drop hlt
  obtain ⟨c, t, e⟩ := drop_cons hlt
  have hpos2 := rune_pos (s.drop pos)
  simp only [upB_nat, BA_size]
  refine ev_guard (decide_eq_true (by omega)) ?_
  rw [Int.toNat_natCast, BA_till]
  refine ((decodeG (l := s.drop pos) (by rw [e]; simp) hr).mono (show 2 ≤ 3 by decide)).use hn hp rfl fun A6 hp => ?_
  have hq : quoteG (s.drop pos) = (if (rune (c :: t)).1 < 32 ∨ (rune (c :: t)).1 = 127 ∨ whole ((c :: t).take (rune (c :: t)).2) = false then [92, 120, hexd (c.toNat / 16), hexd (c.toNat % 16)]
      else if (rune (c :: t)).1 = 34 ∨ (rune (c :: t)).1 = 92 then 92 :: (Utf8.encode (((rune (c :: t)).1 : Nat) : Int)).data.toList
      else (Utf8.encode (((rune (c :: t)).1 : Nat) : Int)).data.toList) ++ quoteG (s.drop (pos + (rune (c :: t)).2)) := by
    rw [e, quoteG, ← e, List.drop_drop]
  rw [← e] at hq
  refine ev_join (fun _ A' => ∃ a' bs', Hp (tabsOf os) A' (.iter b2 (BA s) (pos + (rune (s.drop pos)).2) :: bldr b0 (some ⟨b0, 0, none⟩) a' bs' l) ∧ 34 :: quoteG s = bs' ++ quoteG (s.drop (pos + (rune (s.drop pos)).2)) ∧ bs'.length ≤ 1 + 4 * (pos + (rune (s.drop pos)).2) ∧ 1 ≤ bs'.length) ?_ fun go hgo => ?_
  · rintro _ A7 ⟨a', bs', g1, g2, g3, g4⟩
    exact ev_pure ⟨_, by omega, _, _, _, rfl, hle, g1, g2, g3, g4⟩
  have ht2 : ((s.drop pos).take (rune (s.drop pos)).2).length ≤ 2 ^ 37 := by rw [List.length_take, List.length_drop]; omega
  generalize hR : rune (s.drop pos) = R at *
  obtain ⟨r, m⟩ := R
  simp only at *
  unfold f9c2
  refine ev_join (fun j A' => Hp (tabsOf os) A' (.iter b2 (BA s) (pos + m) :: bldr b0 (some ⟨b0, 0, none⟩) a bs l) ∧ j = (decide (r < 32 ∨ r = 127 ∨ whole ((s.drop pos).take m) = false), ())) ?_ fun go2 hgo2 => ?_
  · rintro _ A7 ⟨hp, rfl⟩
    simp only
    refine ev_ite (fun h => ?_) fun h => ?_
    · rw [decide_eq_true_eq] at h
      rw [if_pos h] at hq
      have hc : byteAt (BA s) (pos : Int) = (c.toNat : Int) := by
        rw [at_byteAt]
        have : at' s pos = at' (s.drop pos) 0 := by unfold at'; rw [List.getElem?_drop, Nat.add_zero]
        rw [this, e]; rfl
      have hcl : c.toNat < 256 := c.toNat_lt
      simp only [hc, inB_nat, BA_size]
      refine ev_guard (decide_eq_true hlt) (ev_guard (by decide) ?_)
      have e1 : (c.toNat : Int).fdiv (2 ^ min (Int.toNat 4) IntKind.u8.bits) = ((c.toNat / 16 : Nat) : Int) := shr c.toNat 4
      simp only [e1]
      refine ev_guard (by rw [inB_nat]; exact decide_eq_true (by show c.toNat / 16 < 16; omega)) ?_
      unfold f9c0
      have e2 : andW .u8 (c.toNat : Int) 15 = ((c.toNat % 16 : Nat) : Int) := by
        rw [show (15 : Int) = ((15 : Nat) : Int) from rfl, andW_nat .u8 (topU8 hcl) (topU8 (by decide)), show (15 : Nat) = 2 ^ 4 - 1 from rfl, and_low]
      have h1 := hex_at ⟨c.toNat / 16, by omega⟩
      have h2 := hex_at ⟨c.toNat % 16, by omega⟩
      simp only at h1 h2
      simp only [hc, inB_nat, BA_size, e2, h1, h2]
      refine ev_guard (decide_eq_true hlt) (ev_guard (decide_eq_true (by show c.toNat % 16 < 16; omega)) ?_)
      refine ev_new hp fun b19 A8 hp => ?_
      refine ev_toStr_row 0 (bs := [hexd (c.toNat / 16), hexd (c.toNat % 16)]) hp rfl rfl ?_
      refine ev_guard (Nat.ble_eq_true_of_le (Nat.le_trans (show _ ≤ 4 from Nat.le_refl 4) (by omega))) ?_
      have e3 : st2 ++ BA [hexd (c.toNat / 16), hexd (c.toNat % 16)] = BA [92, 120, hexd (c.toNat / 16), hexd (c.toNat % 16)] := BA_append [92, 120] _
      rw [e3]
      refine (writeStringG [92, 120, hexd (c.toNat / 16), hexd (c.toNat % 16)] (hp.tail.front 1 rfl |>.front 2 rfl |>.front 1 rfl) (.inr rfl) (by simp; omega) fun A9 a9 hp => ⟨(_, _, ()), rfl, ?_⟩).mono (show 2 ≤ 3 by decide) |>.use hn
      exact hgo _ _ ⟨a9, _, hp.front 2 rfl, by rw [hw, hq, List.append_assoc], by simp; omega, by simp⟩
    · rw [decide_eq_false_iff_not] at h
      rw [if_neg h] at hq
      have hne : s.drop pos ≠ [] := by rw [e]; simp
      have hbad : bad (s.drop pos) = false := by
        have := whole_own hne
        rw [hR] at this
        cases hb : bad (s.drop pos) with
        | false => rfl
        | true => rw [hb] at this; exact absurd (.inr (.inr this)) h
      have henc := encode_rune hne hbad
      rw [hR] at henc
      have hv : Utf8.valid (r : Int) = true := by
        have := rune_valid hbad
        rwa [hR] at this
      have hel : (Utf8.encode (r : Int)).data.toList.length ≤ m := by rw [henc, List.length_take]; omega
      unfold f9c1
      simp only [M.join]
      have fr := hp.front 1 rfl |>.front 2 rfl |>.front 1 rfl
      by_cases h12 : r = 34 ∨ r = 92
      · rw [if_pos h12] at hq
        refine ev_or (by rw [show (34 : Int) = ((34 : Nat) : Int) from rfl, show (92 : Int) = ((92 : Nat) : Int) from rfl, eqB_nat, eqB_nat, Bool.or_eq_true, decide_eq_true_eq, decide_eq_true_eq]; exact h12) ?_
        refine (writeByteG 92 fr (.inr rfl) (by omega) fun A8 a8 hp => ⟨_, rfl, ?_⟩).mono (show 2 ≤ 3 by decide) |>.use hn
        refine (writeRuneG hp (.inr rfl) hv (by simp only [List.length_append, List.length_cons, List.length_nil]; omega) fun A9 a9 v hp => ⟨(_, _, ()), rfl, ?_⟩).use hn
        exact hgo _ _ ⟨a9, _, hp.front 2 rfl, hw.trans ((congrArg (bs ++ ·) hq).trans (app3 _ _ _ _)), by simp only [List.length_append, List.length_cons, List.length_nil]; omega, by simp only [List.length_append, List.length_cons, List.length_nil]; omega⟩
      · rw [if_neg h12] at hq
        refine ev_f (by rw [show (34 : Int) = ((34 : Nat) : Int) from rfl, eqB_nat, decide_eq_false_iff_not]; omega) (ev_f (by rw [show (92 : Int) = ((92 : Nat) : Int) from rfl, eqB_nat, decide_eq_false_iff_not]; omega) ?_)
        refine (writeRuneG fr (.inr rfl) hv (by omega) fun A9 a9 v hp => ⟨(_, _, ()), rfl, ?_⟩).use hn
        exact hgo _ _ ⟨a9, _, hp.front 2 rfl, by rw [hw, hq, List.append_assoc], by rw [List.length_append]; omega, by rw [List.length_append]; omega⟩
  · have hrune : ∀ A8 q, Hp (tabsOf os) A8 (.iter b2 (BA s) (pos + m) :: bldr b0 (some ⟨b0, 0, none⟩) a bs l) → q = decide (r < 32 ∨ r = 127 ∨ whole ((s.drop pos).take m) = false) → Ev (go2 (q, ())) A8 _ := fun A8 q h8 hq8 => hgo2 _ _ ⟨h8, by rw [hq8]⟩
    refine ev_ite (fun h1 => ?_) fun h1 => ?_
    · rw [show (32 : Int) = ((32 : Nat) : Int) from rfl, ltB_nat, decide_eq_true_eq] at h1
      exact hrune A6 true hp (decide_eq_true (.inl h1)).symm
    rw [show (32 : Int) = ((32 : Nat) : Int) from rfl, ltB_nat, decide_eq_false_iff_not] at h1
    refine ev_ite (fun h2 => ?_) fun h2 => ?_
    · rw [show (127 : Int) = ((127 : Nat) : Int) from rfl, eqB_nat, decide_eq_true_eq] at h2
      exact hrune A6 true hp (decide_eq_true (.inr (.inl h2))).symm
    rw [show (127 : Int) = ((127 : Nat) : Int) from rfl, eqB_nat, decide_eq_false_iff_not] at h2
    rw [addW_i64 (by omega)]
    simp only [upB_nat, BA_size, Int.toNat_natCast, BA_extract]
    refine ev_guard (decide_eq_true hle) (ev_guard (decide_eq_true (by omega)) ?_)
    rw [List.drop_take, show pos + m - pos = m by omega]
    refine (wholeG ((s.drop pos).take m) (by omega) hr).use hn hp rfl fun A7 hp => ?_
    refine hrune A7 _ hp ?_
    cases whole ((s.drop pos).take m) <;> simp [h1, h2]
end
end Go.Proofs.YtlcigkdflbfdgaaDoor.sb
namespace Go.Proofs.YtlcigkdflbfdgaaDoor.sb
set_option linter.unusedVariables false
open Go Go.Eng Go.Sh
section
variable {os : List (Nat × AObj)} {A : AW} {Q : Value → AW → Prop} {l : List Thing}
/-- Where a word ends. -/
def endN (s : List UInt8) : Option Nat := match s with
  | [] => none
  | c :: t => if c = 34 then scanE true (c :: t) else none
def endV : Option Nat → Value
  | some k => .int .i64 (k : Int)
  | none => .int .i64 (-1)
theorem take_one (s : List UInt8) : (s.take [(34 : UInt8)].length = [34]) ↔ ∃ t, s = 34 :: t := by
  cases s with
  | nil => simp
  | cons c t => simp
theorem endG (s : List UInt8) (hs : s.length < 2 ^ 38) : Gives (tabsOf os) (XX os) 3 20 [.string (BA s)] (endV (endN s)) := by
  intro A l Q hp H
  refine t20 (d := 2) (BA s, ()) fun n hn => ?_
  unfold f20
  rw [show st15 = BA [34] from rfl]
  refine (prefixG s [34]).use hn hp rfl fun A1 hp => ?_
  by_cases h34 : s.take [(34 : UInt8)].length = [34]
  · obtain ⟨t, rfl⟩ := (take_one s).1 h34
    rw [decide_eq_true h34]
    refine ev_f rfl (ev_iter hp fun b A2 hp => ?_)
    unfold f20c0
    have hend : endN (34 :: t) = scanE true (34 :: t) := by
      show (if (34 : UInt8) = 34 then scanE true (34 :: t) else none) = _
      rw [if_pos rfl]
    rw [hend] at H
    generalize 34 :: t = s at *
    refine ev_bind (ev_LL (fun m st A' => ∃ pos, m = s.length - pos ∧ pos ≤ s.length ∧ Hp (tabsOf os) A' (.iter b (BA s) pos :: l) ∧ scanE true s = (scanE st.1 (s.drop pos)).map (· + pos)) (m := s.length)
      ⟨0, rfl, by omega, hp, by cases h : scanE true s <;> simp [h]⟩ (by omega) ?_)
    rintro m st A3 ⟨pos, rfl, hpos, hp, hw⟩
    refine ev_next 0 hp rfl (fun hge => ?_) fun hlt A4 hp => ?_
    · rw [BA_size] at hge
      rw [List.drop_of_length_le hge, scanE_nil] at hw
      rw [hw] at H
      exact ev_pure (ev_pure (H A3 hp.tail))
    rw [BA_size] at hlt
    rw [decode_BA] at hp ⊢
    have hle := rune_len_drop hlt
    obtain ⟨c, t', e⟩ := drop_cons hlt
    have hpos2 := rune_pos (s.drop pos)
    rw [e, scanE_cons, ← e, List.drop_drop] at hw
    have next : ∀ m', scanE true s = ((scanE m' (s.drop (pos + (rune (s.drop pos)).2))).map (· + (rune (s.drop pos)).2)).map (· + pos) → scanE true s = (scanE m' (s.drop (pos + (rune (s.drop pos)).2))).map (· + (pos + (rune (s.drop pos)).2)) := fun m' h => by
      rw [h, Option.map_map]
      congr 1
      funext x
      show x + _ + pos = _
      omega
    generalize hR : rune (s.drop pos) = R at *
    obtain ⟨r, m⟩ := R
    simp only at *
    simp only [M.join]
    refine ev_ite (fun hm => ?_) fun hm => ?_
    · rw [if_pos hm] at hw
      exact ev_pure ⟨_, by omega, _, rfl, hle, hp, next _ hw⟩
    rw [if_neg (by rw [hm]; simp)] at hw
    refine ev_ite (fun h1 => ?_) fun h1 => ?_
    · rw [show (92 : Int) = ((92 : Nat) : Int) from rfl, eqB_nat, decide_eq_true_eq] at h1
      rw [if_pos h1] at hw
      exact ev_pure ⟨_, by omega, _, rfl, hle, hp, next _ hw⟩
    rw [show (92 : Int) = ((92 : Nat) : Int) from rfl, eqB_nat, decide_eq_false_iff_not] at h1
    rw [if_neg h1] at hw
    refine ev_ite (fun h2 => ?_) fun h2 => ?_
    · rw [show (34 : Int) = ((34 : Nat) : Int) from rfl, eqB_nat, decide_eq_true_eq] at h2
      rw [if_pos h2] at hw
      rw [hw] at H
      refine ev_pure (ev_pure ?_)
      rw [show (1 : Int) = ((1 : Nat) : Int) from rfl, addW_i64 (by omega), Nat.add_comm]
      exact H A4 hp.tail
    · rw [show (34 : Int) = ((34 : Nat) : Int) from rfl, eqB_nat, decide_eq_false_iff_not] at h2
      rw [if_neg h2] at hw
      exact ev_pure ⟨_, by omega, _, rfl, hle, hp, by rw [hm]; exact next _ hw⟩
  · rw [decide_eq_false h34]
    have : endN s = none := by
      unfold endN
      cases s with
      | nil => rfl
      | cons c t =>
        simp only
        rw [if_neg fun e => h34 ((take_one _).2 ⟨t, by rw [e]⟩)]
    rw [this] at H
    exact ev_t rfl (ev_pure (H A1 hp))
/-- What Unquote hands back. -/
def unqV : Option (List UInt8 × List UInt8) → Value
  | some (b, r) => .tuple ⟨[.string (BA b), .string (BA r), .bool true]⟩
  | none => .tuple ⟨[.string (BA []), .string (BA []), .bool false]⟩
theorem unqG_eq (s : List UInt8) : unqG s = (endN s).bind fun to => (readG ((s.take (to - 1)).drop 1)).bind fun b => if word b = s.take to then some (b, s.drop to) else none := by
  unfold unqG endN
  cases s with
  | nil => rfl
  | cons c t =>
    simp only
    by_cases hc : c = 34
    · rw [if_pos hc, if_pos hc]
      cases scanE true (c :: t) with
      | none => rfl
      | some to =>
        simp only [Option.bind_some]
        cases readG (((c :: t).take (to - 1)).drop 1) <;> rfl
    · rw [if_neg hc, if_neg hc]; rfl
theorem hex_of : ∀ c : Fin 256, Lib.indexByte [48, 49, 50, 51, 52, 53, 54, 55, 56, 57, 97, 98, 99, 100, 101, 102] (UInt8.ofNat c.val) = (match hexv (UInt8.ofNat c.val) with | some v => (v : Int) | none => -1) := by decide +kernel
theorem hex_ix (c : UInt8) : Lib.indexByte [48, 49, 50, 51, 52, 53, 54, 55, 56, 57, 97, 98, 99, 100, 101, 102] c = (match hexv c with | some v => (v : Int) | none => -1) := by
  have := hex_of ⟨c.toNat, c.toNat_lt⟩
  simpa using this
theorem hexv_lt {c : UInt8} {v : Nat} (h : hexv c = some v) : v < 16 := by
  unfold hexv at h
  split at h
  · obtain rfl := Option.some.inj h; omega
  · split at h
    · obtain rfl := Option.some.inj h; omega
    · cases h
theorem dig_lit : st1 = BA [48, 49, 50, 51, 52, 53, 54, 55, 56, 57, 97, 98, 99, 100, 101, 102] := rfl
theorem byte_lit (c : UInt8) : (Value.int .u8 (((c.toNat : Nat)) : Int)) = .int .u8 (c.toNat : Int) := rfl
theorem unquoteG (s : List UInt8) (hs : s.length < 2 ^ 36) (hr : Runes os) : Gives (tabsOf os) (XX os) 5 7 [.string (BA s)] (unqV (unqG s)) := by
  intro A l Q hp H
  refine t7 (d := 4) (BA s, ()) fun n hn => ?_
  unfold f7
  refine ev_call (endG s (by omega) A l _ hp (fun A1 hp => ?_) n (by omega))
  rw [unqG_eq] at H
  cases he : endN s with
  | none =>
    rw [he] at H
    exact ⟨_, rfl, ev_t (by decide) (ev_pure (H A1 hp))⟩
  | some to =>
    rw [he] at H
    have hto : 2 ≤ to ∧ to ≤ s.length := by
      unfold endN at he
      cases s with
      | nil => cases he
      | cons c t =>
        simp only at he
        split at he
        · exact scanE_two he
        · cases he
    refine ⟨(to : Int), rfl, ?_⟩
    refine ev_f (by rw [show (0 : Int) = ((0 : Nat) : Int) from rfl, ltB_nat]; exact decide_eq_false (by omega)) ?_
    simp only [upB_nat, BA_size, Int.toNat_natCast, BA_extract, List.drop_zero]
    refine ev_guard (decide_eq_true hto.2) ?_
    rw [subW_1 (by omega) (by omega)]
    simp only [upB_nat, upB_1, Int.toNat_natCast, List.length_take]
    refine ev_guard (decide_eq_true (by omega)) (ev_guard (decide_eq_true (by omega)) ?_)
    rw [show Int.toNat 1 = 1 from rfl, List.take_take, show min (to - 1) to = to - 1 by omega]
    unfold f7c3
    simp only [Option.bind_some] at H
    generalize hin : (s.take (to - 1)).drop 1 = ins at *
    have hil : ins.length < 2 ^ 36 := by rw [← hin, List.length_drop, List.length_take]; omega
    refine ev_bind (ev_LL (fun m st A' => ∃ bs rs, st.2.1 = BA rs ∧ m = rs.length ∧ rs.length + bs.length ≤ ins.length ∧ Hp (tabsOf os) A' (.vec 5 1 false st.1.1 st.1.2.1 st.1.2.2 (u8s bs) :: l) ∧ readG ins = (readG rs).map (bs ++ ·)) (m := ins.length)
      ⟨[], ins, rfl, rfl, by simp, hp.vec0 5 1 false, by cases readG ins <;> simp⟩ (by omega) ?_)
    rintro m ⟨sl, rest, _⟩ A3 ⟨bs, rs, hrs, rfl, hlen, hp, hw⟩
    simp only at hrs hp
    subst hrs
    simp only
    have hsl : sl.2.1 = bs.length := by
      have := (hp.own 0 _ rfl).1
      rw [u8s_length] at this
      omega
    have app : ∀ {ρ' : Type} {Q' : ρ' → AW → Prop} {A4 : AW} {K : Option Addr → Nat → Nat → M ρ'} (x : UInt8) (v : Int), v = (x.toNat : Int) → Hp (tabsOf os) A4 (.vec 5 1 false sl.1 sl.2.1 sl.2.2 (u8s bs) :: l) →
        (∀ A5 a n, Hp (tabsOf os) A5 (.vec 5 1 false a n n (u8s (bs ++ [x])) :: l) → Ev (K a n n) A5 Q') → Ev (M.new (.cells (Row.ofList [(.int .u8 v)]) 5 false (0, 0) false) fun b => M.append 5 1 1 sl.1 sl.2.1 sl.2.2 (.slice (some (Addr.mk b 0 none)) 1 1) K) A4 Q' := fun {_ _ A4 K} x v hv hp HK => by
      subst hv
      refine ev_new hp fun b A5 hp => ?_
      refine ev_append_row 1 0 hp rfl rfl rfl (Nat.le_refl _) (Nat.le_refl _) (by rw [hsl]; omega) rfl fun A6 a' hp => ?_
      exact HK A6 a' _ (by rw [u8s_append]; exact hp.tail)
    refine ev_ite (fun hne => ?_) fun hne => ?_
    · rw [show st0 = BA [] from rfl, BA_seq] at hne
      have hne : rs ≠ [] := by simpa using hne
      refine ev_join (fun j A' => ∃ bs' k, j.2.1 = ((k : Nat) : Int) ∧ 1 ≤ k ∧ k ≤ rs.length ∧ Hp (tabsOf os) A' (.vec 5 1 false j.1.1 j.1.2.1 j.1.2.2 (u8s bs') :: l) ∧ readG ins = (readG (rs.drop k)).map (bs' ++ ·) ∧ rs.length - k + bs'.length ≤ ins.length) ?_ fun go hgo => ?_
      · rintro ⟨sl', k, _⟩ A4 ⟨bs', k', hk, g1, g2, g3, g4, g5⟩
        simp only at hk g3
        subst hk
        simp only [upB_nat, BA_size, Int.toNat_natCast, BA_till]
        exact ev_guard (decide_eq_true g2) (ev_pure ⟨_, by omega, bs', rs.drop k', rfl, (List.length_drop).symm, by rw [List.length_drop]; omega, g3, g4⟩)
      rw [show st2 = BA [92, 120] from rfl]
      simp only [M.join]
      refine ((prefixG rs [92, 120]).mono (show 2 ≤ 4 by decide)).use hn hp rfl fun A4 hp => ?_
      have one : ∀ (x : UInt8) (t : List UInt8) (k : Nat), 1 ≤ k → k ≤ rs.length → rs.drop k = t → readG rs = (readG t).map (x :: ·) → readG ins = (readG (rs.drop k)).map ((bs ++ [x]) ++ ·) := fun x t k _ _ h1 h2 => by
        rw [hw, h2, h1, Option.map_map]
        congr 1
        funext z
        simp
      obtain ⟨c, t, rfl⟩ : ∃ c t, rs = c :: t := by
        cases rs with
        | nil => exact absurd rfl hne
        | cons c t => exact ⟨c, t, rfl⟩
      by_cases hesc : c = 92 ∧ ∃ a b t2, t = 120 :: a :: b :: t2
      · obtain ⟨rfl, a, b, t2, rfl⟩ := hesc
        refine ev_t (by simp) ?_
        unfold f7c2
        simp only [inB_2, inB_3, BA_size]
        refine ev_t (by rw [leB_lit']; simp) (ev_guard (by simp) (ev_guard (by simp) ?_))
        have ea : byteAt (BA (92 :: 120 :: a :: b :: t2)) 2 = (a.toNat : Int) := rfl
        have eb : byteAt (BA (92 :: 120 :: a :: b :: t2)) 3 = (b.toNat : Int) := rfl
        rw [ea, eb, dig_lit]
        refine ((indexG _ a).mono (show 2 ≤ 4 by decide)).use hn hp rfl fun A5 hp => ?_
        refine ((indexG _ b).mono (show 2 ≤ 4 by decide)).use hn hp rfl fun A6 hp => ?_
        rw [hex_ix, hex_ix]
        unfold f7c0
        simp only [M.join]
        have bad : hexv a = none ∨ hexv b = none → unqV ((readG ins).bind fun b => if word b = s.take to then some (b, s.drop to) else none) = unqV none := fun h => by
          rw [hw, readG_bad a b t2 h]; rfl
        cases ha : hexv a with
        | none =>
          rw [bad (.inl ha)] at H
          exact ev_t (by simp only; decide) (ev_t rfl (ev_pure (ev_pure (H A6 hp.tail))))
        | some u =>
          have hu := hexv_lt ha
          refine ev_f (by simp only; exact ltB_0 _) ?_
          cases hb : hexv b with
          | none =>
            rw [bad (.inr hb)] at H
            exact ev_t (by simp only; decide) (ev_pure (ev_pure (H A6 hp.tail)))
          | some v =>
            have hv := hexv_lt hb
            refine ev_f (by simp only; exact ltB_0 _) (ev_guard (by decide) ?_)
            simp only
            refine app (UInt8.ofNat (16 * u + v)) _ ?_ hp fun A7 a' n' hp => ?_
            · rw [show IntKind.i64.wrap ((u : Int) * 2 ^ min (Int.toNat 4) IntKind.i64.bits) = ((u * 2 ^ 4 : Nat) : Int) from wrap_nat (by show u * 2 ^ 4 ≤ 9223372036854775807; omega),
                orW_nat .i64 (by show u * 2 ^ 4 ≤ 9223372036854775807; omega) (by show v ≤ 9223372036854775807; omega), or_low (by omega), wrapU8, UInt8.toNat_ofNat']
              exact congrArg _ (by omega)
            · refine hgo _ A7 ⟨bs ++ [UInt8.ofNat (16 * u + v)], 4, rfl, by decide, by simp, hp, one _ t2 4 (by decide) (by simp) rfl (readG_hex a b t2 ha hb), ?_⟩
              simp only [List.length_append, List.length_cons, List.length_nil] at hlen ⊢
              omega
      · refine ev_ite (fun hpre => ?_) fun hpre => ?_
        all_goals
          unfold f7c2
          refine ev_f ?_ ?_
        case refine_1.refine_1 =>
          simp only
          rw [leB_lit']
          refine decide_eq_false fun h4 => hesc ?_
          rw [decide_eq_true_eq] at hpre
          match t, h4, hpre with
          | [], _, h => simp at h
          | [x], h4, _ => simp [BA_size] at h4
          | [x, y], h4, _ => simp [BA_size] at h4
          | x :: a :: b :: t2, _, h =>
            simp at h
            exact ⟨h.1, a, b, t2, by rw [h.2]⟩
        case refine_2.refine_1 => rfl
        all_goals
          simp only [M.join, inB_0, BA_size]
          refine ev_guard (by simp) ?_
          have e0 : byteAt (BA (c :: t)) 0 = (c.toNat : Int) := rfl
          rw [e0, eqB_lit]
          refine ev_ite (fun hc => ?_) fun hc => ?_
          · rw [decide_eq_true_eq] at hc
            obtain rfl : c = 92 := UInt8.toNat_inj.1 hc
            unfold f7c1
            simp only [inB_0, inB_1, BA_size]
            refine ev_ite (fun h2 => ?_) fun h2 => ?_
            · rw [leB_lit', decide_eq_true_eq] at h2
              obtain ⟨x, t', rfl⟩ : ∃ x t', t = x :: t' := by
                cases t with
                | nil => simp at h2
                | cons x t' => exact ⟨x, t', rfl⟩
              refine ev_guard (by simp) ?_
              refine app x _ rfl hp fun A7 a' n' hp => hgo _ A7 ⟨bs ++ [x], 2, rfl, by decide, by simp, hp, one x t' 2 (by decide) (by simp) rfl (readG_short x t' fun ⟨e1, e2⟩ => hesc ⟨rfl, ?_⟩), ?_⟩
              · match t', e2 with
                | [], h => simp at h
                | [_], h => simp at h
                | a :: b :: t2, _ => exact ⟨a, b, t2, by rw [e1]⟩
              · simp only [List.length_append, List.length_cons, List.length_nil] at hlen ⊢
                omega
            · rw [leB_lit', decide_eq_false_iff_not] at h2
              obtain rfl : t = [] := by
                cases t with
                | nil => rfl
                | cons x t' => simp at h2
              refine ev_guard (by simp) ?_
              refine app 92 _ rfl hp fun A7 a' n' hp => hgo _ A7 ⟨bs ++ [92], 1, rfl, by decide, by simp, hp, one 92 [] 1 (by decide) (by simp) rfl (by rw [readG_back, readG_nil]; rfl), ?_⟩
              simp only [List.length_append, List.length_cons, List.length_nil] at hlen ⊢
              omega
          · rw [decide_eq_false_iff_not] at hc
            have hc : c ≠ 92 := fun e => hc (by rw [e]; rfl)
            unfold f7c1
            simp only [inB_0, BA_size]
            refine ev_f rfl (ev_guard (by simp) ?_)
            refine app c _ rfl hp fun A7 a' n' hp => hgo _ A7 ⟨bs ++ [c], 1, rfl, by decide, by simp, hp, one c t 1 (by decide) (by simp) rfl (readG_cons c t hc), ?_⟩
            simp only [List.length_append, List.length_cons, List.length_nil] at hlen ⊢
            omega
    · rw [show st0 = BA [] from rfl, BA_seq] at hne
      obtain rfl : rs = [] := by simpa using hne
      rw [readG_nil] at hw
      rw [hw] at H
      simp only [Option.map_some, List.append_nil, Option.bind_some] at H
      refine ev_pure ?_
      simp only [Round, M.sum]
      refine ev_toStr 0 hp rfl ?_
      refine (quoteGG bs (by omega) hr).use hn hp rfl fun A4 hp => ?_
      rw [BA_seq]
      by_cases hwd : word bs = s.take to
      · rw [if_pos hwd] at H
        refine ev_f (by rw [decide_eq_true hwd]; rfl) (ev_guard (by rw [upB_nat, BA_size]; exact decide_eq_true hto.2) ?_)
        refine ev_toStr 0 hp rfl (ev_pure ?_)
        rw [Int.toNat_natCast, BA_from]
        exact H A4 hp.tail
      · rw [if_neg hwd] at H
        exact ev_t (by rw [decide_eq_false hwd]; rfl) (ev_pure (H A4 hp.tail))
end
end Go.Proofs.YtlcigkdflbfdgaaDoor.sb
