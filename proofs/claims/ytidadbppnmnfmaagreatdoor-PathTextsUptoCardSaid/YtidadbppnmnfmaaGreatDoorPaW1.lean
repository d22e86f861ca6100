/-
  Walks: prefixes, a byte's place, runes.
-/
import Derived.Test.YtidadbppnmnfmaaGreatDoorPaG
import Derived.Test.YtidadbppnmnfmaaGreatDoorEng30
import Derived.Test.YtidadbppnmnfmaaGreatDoorPlain
namespace Go.Proofs.YtidadbppnmnfmaaGreatDoor.pa
open Go Go.Eng Go.Sh
section
variable {os : List (Nat × AObj)}
theorem at_byteAt (l : List UInt8) (i : Nat) : byteAt (BA l) (i : Int) = (at' l i : Int) := by
  rw [BA_byteAt]; rfl
theorem at_byteAt0 (l : List UInt8) : byteAt (BA l) 0 = (at' l 0 : Int) := at_byteAt l 0
theorem at_byteAt1 (l : List UInt8) : byteAt (BA l) 1 = (at' l 1 : Int) := at_byteAt l 1
theorem at_byteAt2 (l : List UInt8) : byteAt (BA l) 2 = (at' l 2 : Int) := at_byteAt l 2
theorem at_byteAt3 (l : List UInt8) : byteAt (BA l) 3 = (at' l 3 : Int) := at_byteAt l 3

theorem prefixL (a b : List UInt8) : Gives (tabsOf os) (XX os) 1 26 [.string (BA a), .string (BA b)] (.bool (decide (a.take b.length = b))) := by
  intro A l Q hp H
  refine t26 (d := 0) (BA a, BA b, ()) fun n hn => ?_
  unfold f26
  simp only [M.join, BA_size]
  refine ev_ite (fun h => ?_) fun h => ?_
  · rw [leB_nat, decide_eq_true_eq] at h
    refine ev_guard (by rw [upB_nat, decide_eq_true_eq]; exact h) ?_
    rw [Int.toNat_natCast, BA_extract, BA_seq, List.drop_zero]
    exact ev_pure (H A hp)
  · rw [leB_nat, decide_eq_false_iff_not] at h
    have : ¬ a.take b.length = b := fun e => by
      have := congrArg List.length e
      rw [List.length_take] at this
      omega
    rw [decide_eq_false this] at H
    exact ev_pure (H A hp)
theorem prefixG (a b : List UInt8) : Gives (tabsOf os) (XX os) 2 15 [.string (BA a), .string (BA b)] (.bool (decide (a.take b.length = b))) := by
  intro A l Q hp H
  refine t15 (d := 1) (BA a, BA b, ()) fun n hn => ?_
  unfold f15
  exact (prefixL a b).use hn hp rfl fun A' h' => ev_pure (H A' h')
/-! ### Runes -/
noncomputable def firstRow : Row := Row.ofList ((List.range 256).map fun c => .int .u8 (firstN c))
def accL : List Value := [.int .u8 128, .int .u8 191, .int .u8 160, .int .u8 191, .int .u8 128, .int .u8 159, .int .u8 144, .int .u8 191, .int .u8 128, .int .u8 143] ++ List.replicate 22 (.int .u8 0)
noncomputable def accRow : Row := Row.ofList accL
structure Runes (os : List (Nat × AObj)) : Prop where
  first : ∃ p, tabsOf os 0 = some (firstRow, p)
  acc : ∃ p, tabsOf os 1 = some (accRow, p)
theorem first_at {c : Nat} (h : c < 256) : (firstRow.list.drop c).take 1 = [.int .u8 (firstN c)] := by
  unfold firstRow
  rw [Row.ofList_list]
  apply List.ext_getElem?
  intro i
  rw [List.getElem?_take, List.getElem?_drop, List.getElem?_map]
  cases i with
  | zero => simp [List.getElem?_range h]
  | succ i => simp
theorem acc_at {i : Nat} (h : i < 5) : (accRow.list.drop (i * 2)).take 2 = [.int .u8 (accLo i), .int .u8 (accHi i)] := by
  unfold accRow
  rw [Row.ofList_list]
  match i, h with
  | 0, _ => rfl
  | 1, _ => rfl
  | 2, _ => rfl
  | 3, _ => rfl
  | 4, _ => rfl
theorem firstN_lt (c : Nat) : firstN c < 256 := by
  unfold firstN
  (repeat' split) <;> omega
theorem firstN_div {c : Nat} (h : firstN c < 240) : firstN c / 16 < 5 ∧ 2 ≤ firstN c % 8 ∧ firstN c % 8 ≤ 4 := by
  unfold firstN at h ⊢
  (repeat' split) <;> simp_all
theorem topI32 {a : Nat} (h : a < 2147483648) : a ≤ topK .i32 := by show a ≤ 2147483647; omega
theorem topU8 {a : Nat} (h : a < 256) : a ≤ topK .u8 := by show a ≤ 255; omega
def rv (p : Nat × Nat) : Value := .tuple ⟨[.int .i32 (p.1 : Int), .int .i64 (p.2 : Int)]⟩
theorem mask_out : ∀ c : Fin 256, orW .i32 (bitsV .andNot .i32 (wrapW .i32 (c.val : Int)) (-1)) (andW .i32 65533 (-1)) = 65533 := by decide +kernel
theorem sh_i32 {a k : Nat} (h : a * 2 ^ k < 2147483648) : IntKind.i32.wrap ((a : Int) * 2 ^ k) = ((a * 2 ^ k : Nat) : Int) := by
  rw [show (a : Int) * 2 ^ k = ((a * 2 ^ k : Nat) : Int) by simp]
  exact wrap_nat (topI32 h)
theorem low_u8 (c m k : Nat) (hc : c < 256) (hm : m = 2 ^ k - 1) (h : m < 256) : wrapW .i32 (andW .u8 (c : Int) (m : Int)) = ((c % 2 ^ k : Nat) : Int) := by
  rw [andW_nat .u8 (topU8 hc) (topU8 h), hm, and_low, wrapW_nat (topI32 (by have := Nat.mod_le c (2 ^ k); omega))]
theorem or_i32 {a b k : Nat} (h : b < 2 ^ k) (h2 : a * 2 ^ k + b < 2147483648) : orW .i32 ((a * 2 ^ k : Nat) : Int) (b : Int) = ((a * 2 ^ k + b : Nat) : Int) := by
  rw [orW_nat .i32 (topI32 (by omega)) (topI32 (by omega)), or_low h]
theorem rune2 {c x : Nat} (hc : c < 256) (hx : x < 256) : orW .i32 (IntKind.i32.wrap ((wrapW .i32 (andW .u8 (c : Int) 31)) * 2 ^ (min (Int.toNat 6) IntKind.i32.bits))) (wrapW .i32 (andW .u8 (x : Int) 63)) = ((c % 32 * 64 + x % 64 : Nat) : Int) := by
  have e1 := low_u8 c 31 5 hc rfl (by decide)
  have e2 := low_u8 x 63 6 hx rfl (by decide)
  have l1 := Nat.mod_lt c (show 0 < 2 ^ 5 by decide)
  have l2 := Nat.mod_lt x (show 0 < 2 ^ 6 by decide)
  rw [show ((31 : Nat) : Int) = 31 from rfl] at e1
  rw [show ((63 : Nat) : Int) = 63 from rfl] at e2
  rw [e1, e2, show min (Int.toNat 6) IntKind.i32.bits = 6 from rfl, sh_i32 (by omega), or_i32 l2 (by omega)]
theorem rune3 {c x y : Nat} (hc : c < 256) (hx : x < 256) (hy : y < 256) : orW .i32 (orW .i32 (IntKind.i32.wrap ((wrapW .i32 (andW .u8 (c : Int) 15)) * 2 ^ (min (Int.toNat 12) IntKind.i32.bits))) (IntKind.i32.wrap ((wrapW .i32 (andW .u8 (x : Int) 63)) * 2 ^ (min (Int.toNat 6) IntKind.i32.bits)))) (wrapW .i32 (andW .u8 (y : Int) 63))
    = ((c % 16 * 4096 + x % 64 * 64 + y % 64 : Nat) : Int) := by
  have e1 := low_u8 c 15 4 hc rfl (by decide)
  have e2 := low_u8 x 63 6 hx rfl (by decide)
  have e3 := low_u8 y 63 6 hy rfl (by decide)
  have l1 := Nat.mod_lt c (show 0 < 2 ^ 4 by decide)
  have l2 := Nat.mod_lt x (show 0 < 2 ^ 6 by decide)
  have l3 := Nat.mod_lt y (show 0 < 2 ^ 6 by decide)
  rw [show ((15 : Nat) : Int) = 15 from rfl] at e1
  rw [show ((63 : Nat) : Int) = 63 from rfl] at e2 e3
  rw [e1, e2, e3, show min (Int.toNat 6) IntKind.i32.bits = 6 from rfl, show min (Int.toNat 12) IntKind.i32.bits = 12 from rfl, sh_i32 (by omega), sh_i32 (by omega), or_i32 (by omega) (by omega),
    show c % 2 ^ 4 * 2 ^ 12 + x % 2 ^ 6 * 2 ^ 6 = (c % 2 ^ 4 * 64 + x % 2 ^ 6) * 2 ^ 6 by omega, or_i32 l3 (by omega)]
theorem rune4 {c x y z : Nat} (hc : c < 256) (hx : x < 256) (hy : y < 256) (hz : z < 256) : orW .i32 (orW .i32 (orW .i32 (IntKind.i32.wrap ((wrapW .i32 (andW .u8 (c : Int) 7)) * 2 ^ (min (Int.toNat 18) IntKind.i32.bits))) (IntKind.i32.wrap ((wrapW .i32 (andW .u8 (x : Int) 63)) * 2 ^ (min (Int.toNat 12) IntKind.i32.bits)))) (IntKind.i32.wrap ((wrapW .i32 (andW .u8 (y : Int) 63)) * 2 ^ (min (Int.toNat 6) IntKind.i32.bits)))) (wrapW .i32 (andW .u8 (z : Int) 63))
    = ((c % 8 * 262144 + x % 64 * 4096 + y % 64 * 64 + z % 64 : Nat) : Int) := by
  have e1 := low_u8 c 7 3 hc rfl (by decide)
  have e2 := low_u8 x 63 6 hx rfl (by decide)
  have e3 := low_u8 y 63 6 hy rfl (by decide)
  have e4 := low_u8 z 63 6 hz rfl (by decide)
  have l1 := Nat.mod_lt c (show 0 < 2 ^ 3 by decide)
  have l2 := Nat.mod_lt x (show 0 < 2 ^ 6 by decide)
  have l3 := Nat.mod_lt y (show 0 < 2 ^ 6 by decide)
  have l4 := Nat.mod_lt z (show 0 < 2 ^ 6 by decide)
  rw [show ((7 : Nat) : Int) = 7 from rfl] at e1
  rw [show ((63 : Nat) : Int) = 63 from rfl] at e2 e3 e4
  rw [e1, e2, e3, e4, show min (Int.toNat 6) IntKind.i32.bits = 6 from rfl, show min (Int.toNat 12) IntKind.i32.bits = 12 from rfl, show min (Int.toNat 18) IntKind.i32.bits = 18 from rfl, sh_i32 (by omega), sh_i32 (by omega), sh_i32 (by omega), or_i32 (by omega) (by omega),
    show c % 2 ^ 3 * 2 ^ 18 + x % 2 ^ 6 * 2 ^ 12 = (c % 2 ^ 3 * 64 + x % 2 ^ 6) * 2 ^ 12 by omega, or_i32 (by omega) (by omega),
    show (c % 2 ^ 3 * 64 + x % 2 ^ 6) * 2 ^ 12 + y % 2 ^ 6 * 2 ^ 6 = ((c % 2 ^ 3 * 64 + x % 2 ^ 6) * 64 + y % 2 ^ 6) * 2 ^ 6 by omega, or_i32 l4 (by omega)]
theorem slowL {l : List UInt8} (hl : l ≠ []) (h0 : 128 ≤ at' l 0) (hr : Runes os) : Gives (tabsOf os) (XX os) 1 58 [.string (BA l)] (rv (rune l)) := by
  intro A L Q hp H
  have b0 := at_lt l 0; have b1 := at_lt l 1; have b2 := at_lt l 2; have b3 := at_lt l 3
  have hlen : 0 < l.length := List.length_pos_iff.2 hl
  obtain ⟨p1, hf⟩ := hr.first
  obtain ⟨p2, ha⟩ := hr.acc
  refine t58 (d := 0) (BA l, ()) fun n hn => ?_
  unfold f58
  simp only [BA_size, at_byteAt0]
  refine ev_f (by rw [show (1 : Int) = ((1 : Nat) : Int) from rfl, ltB_nat, decide_eq_false_iff_not]; omega) ?_
  refine ev_guard (by rw [show (0 : Int) = ((0 : Nat) : Int) from rfl, inB_nat, decide_eq_true_eq]; exact hlen) ?_
  refine ev_guard (by rw [inB_nat, decide_eq_true_eq]; exact b0) ?_
  unfold f58c5
  rw [Int.toNat_natCast, Nat.mul_one, add0]
  have hfl : firstRow.list.length = 256 := by unfold firstRow; rw [Row.ofList_list]; simp
  refine ev_tab (x := ((firstN (at' l 0) : Nat) : Int)) hp hf rfl (by rw [hfl]; show at' l 0 + 1 ≤ 256; omega) (by rw [first_at b0]; rfl) (by rw [first_at b0]; rfl) ?_
  by_cases hx : firstN (at' l 0) < 240
  · refine ev_f (by rw [show (240 : Int) = ((240 : Nat) : Int) from rfl, leB_nat, decide_eq_false_iff_not]; omega) ?_
    obtain ⟨hd, hm⟩ := firstN_div hx
    rw [← slow_all hx] at H
    generalize firstN (at' l 0) = x at *
    unfold f58c4
    have e1 : wrapW .i64 (andW .u8 (x : Int) 7) = ((x % 8 : Nat) : Int) := by
      rw [show (7 : Int) = ((7 : Nat) : Int) from rfl, andW_nat .u8 (topU8 (by omega)) (topU8 (by decide)), show (7 : Nat) = 2 ^ 3 - 1 from rfl, and_low, wrapW_nat (by show _ ≤ 9223372036854775807; omega)]
    have e2 : ((x : Nat) : Int).fdiv (2 ^ (min (Int.toNat 4) IntKind.u8.bits)) = ((x / 16 : Nat) : Int) := fdiv_nat x 16
    simp only [e1, e2]
    refine ev_guard (by decide) (ev_guard (by rw [inB_nat, decide_eq_true_eq]; omega) ?_)
    rw [Int.toNat_natCast, add0]
    have hal : accRow.list.length = 32 := by unfold accRow; rw [Row.ofList_list]; rfl
    refine ev_tab (x := (((accLo (x / 16) : Nat) : Int), ((accHi (x / 16) : Nat) : Int), ())) hp ha rfl (by rw [hal]; show x / 16 * 2 + 2 ≤ 32; omega) (by rw [acc_at hd]; rfl) (by rw [acc_at hd]; rfl) ?_
    refine ev_new hp fun b A1 hp => ?_
    refine ev_store 0 hp rfl rfl (Nat.le_refl 2) rfl fun A2 hp => ?_
    replace hp : Hp _ A2 (.cells b [.int .u8 (accLo (x / 16) : Nat), .int .u8 (accHi (x / 16) : Nat)] _ _ _ _ :: L) := hp
    generalize elo : accLo (x / 16) = lo at *
    generalize ehi : accHi (x / 16) = hi at *
    unfold f58c3
    simp only [BA_size, at_byteAt1, M.join]
    have bad : ∀ A', Hp (tabsOf os) A' L → slowR l x = (65533, 1) → Q (rv (65533, 1)) A' := fun A' h' e => e ▸ H A' h'
    refine ev_ite (fun h => ?_) fun h => ?_
    · rw [ltB_nat, decide_eq_true_eq] at h
      exact ev_pure (bad _ hp.tail (by unfold slowR; rw [if_pos h]))
    · rw [ltB_nat, decide_eq_false_iff_not] at h
      have s1 : slowR l x = slowR l x := rfl
      conv at s1 =>
        rhs
        unfold slowR
      rw [if_neg h, elo, ehi] at s1
      refine ev_guard (by rw [show (1 : Int) = ((1 : Nat) : Int) from rfl, inB_nat, decide_eq_true_eq]; omega) ?_
      refine ev_load 0 hp rfl rfl rfl (Nat.le_of_ble_eq_true rfl) rfl ?_
      refine ev_ite (fun h1 => ?_) fun h1 => ?_
      · rw [ltB_nat, decide_eq_true_eq] at h1
        exact ev_t rfl (ev_pure (bad _ hp.tail (by rw [s1, if_pos (by simp [h1])])))
      rw [ltB_nat, decide_eq_false_iff_not] at h1
      refine ev_load 0 hp rfl rfl rfl (Nat.le_of_ble_eq_true rfl) rfl ?_
      refine ev_ite (fun h2 => ?_) fun h2 => ?_
      · rw [ltB_nat, decide_eq_true_eq] at h2
        exact ev_pure (bad _ hp.tail (by rw [s1, if_pos (by simp [h2])]))
      rw [ltB_nat, decide_eq_false_iff_not] at h2
      rw [if_neg (by simp; omega)] at s1
      unfold f58c2
      refine ev_ite (fun h3 => ?_) fun h3 => ?_
      · rw [show (2 : Int) = ((2 : Nat) : Int) from rfl, leB_nat, decide_eq_true_eq] at h3
        rw [if_pos h3] at s1
        refine ev_guard (by decide) (ev_pure ?_)
        have := H _ hp.tail
        rw [s1] at this
        rw [rune2 b0 b1]
        exact this
      rw [show (2 : Int) = ((2 : Nat) : Int) from rfl, leB_nat, decide_eq_false_iff_not] at h3
      rw [if_neg h3] at s1
      simp only [BA_size, at_byteAt2, M.join]
      refine ev_guard (by rw [show (2 : Int) = ((2 : Nat) : Int) from rfl, inB_nat, decide_eq_true_eq]; omega) ?_
      refine ev_ite (fun h4 => ?_) fun h4 => ?_
      · rw [show (128 : Int) = ((128 : Nat) : Int) from rfl, ltB_nat, decide_eq_true_eq] at h4
        exact ev_t rfl (ev_pure (bad _ hp.tail (by rw [s1, if_pos (by simp [tailB, h4])])))
      rw [show (128 : Int) = ((128 : Nat) : Int) from rfl, ltB_nat, decide_eq_false_iff_not] at h4
      refine ev_ite (fun h5 => ?_) fun h5 => ?_
      · rw [show (191 : Int) = ((191 : Nat) : Int) from rfl, ltB_nat, decide_eq_true_eq] at h5
        exact ev_pure (bad _ hp.tail (by rw [s1, if_pos (by simp [tailB, h5])]))
      rw [show (191 : Int) = ((191 : Nat) : Int) from rfl, ltB_nat, decide_eq_false_iff_not] at h5
      rw [if_neg (by simp [tailB]; omega)] at s1
      unfold f58c1
      refine ev_ite (fun h6 => ?_) fun h6 => ?_
      · rw [show (3 : Int) = ((3 : Nat) : Int) from rfl, leB_nat, decide_eq_true_eq] at h6
        rw [if_pos h6] at s1
        refine ev_guard (by decide) (ev_guard (by decide) (ev_pure ?_))
        have := H _ hp.tail
        rw [s1] at this
        rw [rune3 b0 b1 b2]
        exact this
      rw [show (3 : Int) = ((3 : Nat) : Int) from rfl, leB_nat, decide_eq_false_iff_not] at h6
      rw [if_neg h6] at s1
      simp only [BA_size, at_byteAt3, M.join]
      refine ev_guard (by rw [show (3 : Int) = ((3 : Nat) : Int) from rfl, inB_nat, decide_eq_true_eq]; omega) ?_
      unfold f58c0
      refine ev_ite (fun h7 => ?_) fun h7 => ?_
      · rw [show (128 : Int) = ((128 : Nat) : Int) from rfl, ltB_nat, decide_eq_true_eq] at h7
        exact ev_t rfl (ev_pure (bad _ hp.tail (by rw [s1, if_pos (by simp [tailB, h7])])))
      rw [show (128 : Int) = ((128 : Nat) : Int) from rfl, ltB_nat, decide_eq_false_iff_not] at h7
      refine ev_ite (fun h8 => ?_) fun h8 => ?_
      · rw [show (191 : Int) = ((191 : Nat) : Int) from rfl, ltB_nat, decide_eq_true_eq] at h8
        exact ev_pure (bad _ hp.tail (by rw [s1, if_pos (by simp [tailB, h8])]))
      rw [show (191 : Int) = ((191 : Nat) : Int) from rfl, ltB_nat, decide_eq_false_iff_not] at h8
      rw [if_neg (by simp [tailB]; omega)] at s1
      refine ev_guard (by decide) (ev_guard (by decide) (ev_guard (by decide) (ev_pure ?_)))
      have := H _ hp.tail
      rw [s1] at this
      rw [rune4 b0 b1 b2 b3]
      exact this
  · obtain ⟨e, hb⟩ := firstN_bad h0 hx
    rw [rune_bad h0 hb] at H
    rw [e]
    refine ev_t (by decide) (ev_guard (by decide) (ev_guard (by decide) (ev_guard (by rw [show (0 : Int) = ((0 : Nat) : Int) from rfl, inB_nat, decide_eq_true_eq]; exact hlen) (ev_pure ?_))))
    have := mask_out ⟨at' l 0, b0⟩
    have em : (((IntKind.i32.wrap ((wrapW .i32 ((241 : Nat) : Int)) * 2 ^ (min (Int.toNat 31) IntKind.i32.bits))) : Int)).fdiv (2 ^ (min (Int.toNat 31) IntKind.i32.bits)) = -1 := by decide +kernel
    simp only [em, at_byteAt0]
    rw [this]
    exact H A hp
theorem decodeG {l : List UInt8} (hl : l ≠ []) (hr : Runes os) : Gives (tabsOf os) (XX os) 2 39 [.string (BA l)] (rv (rune l)) := by
  intro A L Q hp H
  have b0 := at_lt l 0
  have hlen : 0 < l.length := List.length_pos_iff.2 hl
  refine t39 (d := 1) (BA l, ()) fun n hn => ?_
  unfold f39
  simp only [BA_size, at_byteAt0, M.join]
  refine ev_t (by rw [show st0 = BA [] from rfl, BA_seq, decide_eq_false hl]; rfl) ?_
  refine ev_guard (by rw [show (0 : Int) = ((0 : Nat) : Int) from rfl, inB_nat, decide_eq_true_eq]; exact hlen) ?_
  refine ev_ite (fun h => ?_) fun h => ?_
  · rw [show (128 : Int) = ((128 : Nat) : Int) from rfl, ltB_nat, decide_eq_true_eq] at h
    rw [rune_one h] at H
    refine ev_guard (by rw [show (0 : Int) = ((0 : Nat) : Int) from rfl, inB_nat, decide_eq_true_eq]; exact hlen) (ev_pure ?_)
    rw [wrapW_nat (topI32 (by omega))]
    exact H A hp
  · rw [show (128 : Int) = ((128 : Nat) : Int) from rfl, ltB_nat, decide_eq_false_iff_not] at h
    exact (slowL hl (by omega) hr).use hn hp rfl fun A' h' => ev_pure (H A' h')
end
end Go.Proofs.YtidadbppnmnfmaaGreatDoor.pa
