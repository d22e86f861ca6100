/-
  Walks: strings.Builder, AppendRune.
-/
import Derived.Test.YtlcigkdflbfdgaaDoorShW1
namespace Go.Proofs.YtlcigkdflbfdgaaDoor.sh
open Go Go.Eng Go.Sh
section
variable {os : List (Nat × AObj)} {A : AW} {Q : Value → AW → Prop} {l : List Thing}
/-- A Builder that lies at b, and its bytes. -/
abbrev bldr (b : Nat) (p a : Option Addr) (bs : List UInt8) (l : List Thing) : List Thing := .cells b [.pointer p, .slice a bs.length bs.length] 51 false (0, 0) false :: .vec 5 1 false a bs.length bs.length (u8s bs) :: l
theorem veqv_slice (a : Option Addr) (n c : Nat) : veqv (.slice a n c) (.slice a n c) = true := by
  simp [veqv, veq1]
theorem copyG {b : Nat} {p : Option Addr} {v : Value} (hp : Hp (tabsOf os) A (.cells b [.pointer p, v] 51 false (0, 0) false :: l)) (h : p = none ∨ p = some ⟨b, 0, none⟩)
    (H : ∀ A', Hp (tabsOf os) A' (.cells b [.pointer (some ⟨b, 0, none⟩), v] 51 false (0, 0) false :: l) → Q (.tuple ⟨[]⟩) A') : Goes (XX os) 1 41 [.pointer (some ⟨b, 0, none⟩)] A Q := by
  refine t41 (d := 0) (some ⟨b, 0, none⟩, ()) fun n hn => ?_
  unfold f41
  refine ev_load 0 hp rfl rfl rfl (Nat.le_of_ble_eq_true rfl) rfl (ev_eqPtr_nil ?_)
  rcases h with rfl | rfl
  · refine ev_t rfl ?_
    refine ev_unsafe 0 hp rfl (t := 51) (by kernel_rfl) (by kernel_rfl) (Nat.le_of_ble_eq_true rfl) (by kernel_rfl) ?_
    refine ev_unsafe_back 0 hp rfl (t := 51) (by kernel_rfl) (by kernel_rfl) (by kernel_rfl) (by kernel_rfl) ?_
    exact ev_store 0 hp rfl rfl (Nat.le_of_ble_eq_true rfl) rfl fun A1 hp => ev_pure (H A1 hp)
  · refine ev_f rfl ?_
    refine ev_load 0 hp rfl rfl rfl (Nat.le_of_ble_eq_true rfl) rfl (ev_eqPtr_same 0 hp rfl ?_)
    exact ev_f rfl (ev_pure (H A hp))
theorem writeByteG {b : Nat} {p a : Option Addr} {bs : List UInt8} (c : UInt8) (hp : Hp (tabsOf os) A (bldr b p a bs l)) (h : p = none ∨ p = some ⟨b, 0, none⟩) (hb : bs.length < 2 ^ 40)
    (H : ∀ A' a', Hp (tabsOf os) A' (bldr b (some ⟨b, 0, none⟩) a' (bs ++ [c]) l) → Q .nilIface A') : Goes (XX os) 2 23 [.pointer (some ⟨b, 0, none⟩), .int .u8 (c.toNat : Int)] A Q := by
  refine t23 (d := 1) (some ⟨b, 0, none⟩, (c.toNat : Int), ()) fun n hn => ?_
  unfold f23
  refine (copyG hp h fun A1 hp => ⟨(), rfl, ?_⟩).use hn
  refine ev_load 0 hp rfl rfl rfl (Nat.le_of_ble_eq_true rfl) rfl ?_
  refine ev_new hp fun b3 A2 hp => ?_
  refine ev_append_row 2 0 hp rfl rfl rfl (Nat.le_refl _) (Nat.le_refl _) (by show (2 * (bs.length + 1) + 200) * 1 ≤ 2 ^ 48; omega) rfl fun A3 a' hp => ?_
  refine ev_store 1 hp rfl rfl (Nat.le_of_ble_eq_true rfl) rfl fun A4 hp => ev_pure (H A4 a' ?_)
  have e : (bs ++ [c]).length = bs.length + 1 := by simp
  unfold bldr
  rw [e, u8s_append]
  exact hp.tail
theorem writeStringG {b : Nat} {p a : Option Addr} {bs : List UInt8} (s : List UInt8) (hp : Hp (tabsOf os) A (bldr b p a bs l)) (h : p = none ∨ p = some ⟨b, 0, none⟩) (hb : bs.length + s.length < 2 ^ 40)
    (H : ∀ A' a', Hp (tabsOf os) A' (bldr b (some ⟨b, 0, none⟩) a' (bs ++ s) l) → Q (.tuple ⟨[.int .i64 (s.length : Int), .nilIface]⟩) A') : Goes (XX os) 2 26 [.pointer (some ⟨b, 0, none⟩), .string (BA s)] A Q := by
  refine t26 (d := 1) (some ⟨b, 0, none⟩, BA s, ()) fun n hn => ?_
  unfold f26
  refine (copyG hp h fun A1 hp => ⟨(), rfl, ?_⟩).use hn
  refine ev_load 0 hp rfl rfl rfl (Nat.le_of_ble_eq_true rfl) rfl ?_
  refine ev_append_str 1 hp rfl (by show (2 * (bs.length + s.length) + 200) * 1 ≤ 2 ^ 48; omega) fun A3 a' hp => ?_
  refine ev_store 0 hp rfl rfl (Nat.le_of_ble_eq_true rfl) rfl fun A4 hp => ev_pure (H A4 a' ?_)
  have e : (bs ++ s).length = bs.length + s.length := List.length_append
  unfold bldr
  rw [e, u8s_append]
  exact hp
theorem stringG {b : Nat} {p a : Option Addr} {bs : List UInt8} (hp : Hp (tabsOf os) A (bldr b p a bs l)) (hb : bs.length < 2 ^ 40) (hna : a = none ∨ 1 ≤ bs.length)
    (H : ∀ A', Hp (tabsOf os) A' l → Q (.string (BA bs)) A') : Goes (XX os) 1 28 [.pointer (some ⟨b, 0, none⟩)] A Q := by
  refine t28 (d := 0) (some ⟨b, 0, none⟩, ()) fun n hn => ?_
  unfold f28
  refine ev_load 0 hp rfl rfl rfl (Nat.le_of_ble_eq_true rfl) rfl ?_
  refine ev_load 0 hp rfl rfl rfl (Nat.le_of_ble_eq_true rfl) rfl ?_
  refine ev_sliceData hna ?_
  refine ev_load 0 hp rfl rfl rfl (Nat.le_of_ble_eq_true rfl) rfl ?_
  refine ev_cond_t (veqv_slice _ _ _) ?_
  refine ev_unsafeString 1 hp rfl (u := 5) (by kernel_rfl) (by kernel_rfl) (by kernel_rfl) (by show bs.length < _; omega) hna fun A1 hp => ev_pure ?_
  exact H A1 hp.tail
theorem lenG {b : Nat} {p a : Option Addr} {bs : List UInt8} (hp : Hp (tabsOf os) A (bldr b p a bs l)) (H : ∀ A', Hp (tabsOf os) A' (bldr b p a bs l) → Q (.int .i64 (bs.length : Int)) A') : Goes (XX os) 1 44 [.pointer (some ⟨b, 0, none⟩)] A Q := by
  refine t44 (d := 0) (some ⟨b, 0, none⟩, ()) fun n hn => ?_
  unfold f44
  exact ev_load 0 hp rfl rfl rfl (Nat.le_of_ble_eq_true rfl) rfl (ev_pure (H A hp))
theorem wrapU8 (a : Nat) : wrapW .u8 (a : Int) = ((a % 256 : Nat) : Int) := by
  rw [wrapW_eq]
  simp only [IntKind.wrap, show IntKind.u8.bits = 8 from rfl, show IntKind.u8.signed = false from rfl, Bool.false_and, Bool.false_eq_true, if_false]
  omega
theorem contB (q : Nat) : orW .u8 128 (andW .u8 (wrapW .u8 (q : Int)) 63) = ((128 + q % 64 : Nat) : Int) := by
  rw [wrapU8, show (63 : Int) = ((63 : Nat) : Int) from rfl, andW_nat .u8 (topU8 (by omega)) (topU8 (by decide)), show (63 : Nat) = 2 ^ 6 - 1 from rfl, and_low, show (128 : Int) = ((2 * 2 ^ 6 : Nat) : Int) from rfl,
    orW_nat .u8 (topU8 (by decide)) (topU8 (by omega)), or_low (by omega)]
  exact congrArg _ (by omega)
theorem leadB (a k : Nat) {q : Nat} (hq : q < 2 ^ k) (h : a * 2 ^ k + q < 256) : orW .u8 ((a * 2 ^ k : Nat) : Int) (wrapW .u8 (q : Int)) = ((a * 2 ^ k + q : Nat) : Int) := by
  rw [wrapU8, Nat.mod_eq_of_lt (by omega), orW_nat .u8 (topU8 (by omega)) (topU8 (by omega)), or_low hq]
theorem shr (r k : Nat) : ((r : Nat) : Int).fdiv (2 ^ k) = ((r / 2 ^ k : Nat) : Int) := by
  have := fdiv_nat r (2 ^ k)
  rw [← this]
  simp
theorem u8v (n : Nat) (h : n < 256) : (Value.int .u8 (n : Int)) = .int .u8 ((UInt8.ofNat n).toNat : Int) := by
  rw [UInt8.toNat_ofNat', Nat.mod_eq_of_lt h]
/-- A rune behind a slice of bytes: valid ones alone. -/
theorem appendRuneG {a : Option Addr} {ish : Bool} {bs : List UInt8} {r : Nat} (hp : Hp (tabsOf os) A (.vec 5 1 ish a bs.length bs.length (u8s bs) :: l)) (hv : Utf8.valid (r : Int) = true) (hb : bs.length < 2 ^ 40)
    (H : ∀ A' a' m, m = (bs ++ (Utf8.encode (r : Int)).data.toList).length → Hp (tabsOf os) A' (.vec 5 1 ish a' m m (u8s (bs ++ (Utf8.encode (r : Int)).data.toList)) :: l) → Q (.slice a' m m) A') : Goes (XX os) 2 43 [.slice a bs.length bs.length, .int .i32 (r : Int)] A Q := by
  have hr : r < 0xD800 ∨ (0xE000 ≤ r ∧ r ≤ 0x10FFFF) := (valid_nat r).1 hv
  have er : Utf8.encode (r : Int) = Utf8.encode (r : Int) := rfl
  conv at er =>
    rhs
    unfold Utf8.encode
  rw [if_pos hv, Int.toNat_natCast] at er
  have key : ∀ {Q' : Value → AW → Prop} (cs : List UInt8), (Utf8.encode (r : Int)).data.toList = cs → cs.length ≤ 4 → ∀ (A1 : AW) (b3 : Nat) (vs : List Value) (K : Option Addr → Nat → Nat → M Value), vs = u8s cs → Hp (tabsOf os) A1 (.cells b3 vs 5 false (0, 0) false :: .vec 5 1 ish a bs.length bs.length (u8s bs) :: l) →
      (∀ a' m A', Hp (tabsOf os) A' (.vec 5 1 ish a' m m (u8s (bs ++ cs)) :: l) → m = (bs ++ cs).length → Ev (K a' m m) A' Q') → Ev (M.append 5 1 1 a bs.length bs.length (.slice (some (Addr.mk b3 0 none)) cs.length cs.length) K) A1 Q' := by
    intro Q' cs hcs hl A1 b3 vs K hvs hp HK
    subst hvs
    refine ev_append_row 1 0 hp rfl rfl (by rw [u8s_length, Nat.mul_one]) (Nat.le_refl _) (Nat.le_refl _) (by omega) (u8s_one _) fun A3 a' hp => ?_
    have e : (bs ++ cs).length = bs.length + cs.length := List.length_append
    have := HK a' (bs.length + cs.length) A3 (by rw [u8s_append]; exact hp.tail) e.symm
    exact this
  refine t43 (d := 1) ((a, bs.length, bs.length), (r : Int), ()) fun n hn => ?_
  unfold f43
  have hw : wrapW .u32 (r : Int) = (r : Int) := wrapW_nat (by show r ≤ 4294967295; omega)
  simp only [hw]
  refine ev_ite (fun h => ?_) fun h => ?_
  · rw [show (127 : Int) = ((127 : Nat) : Int) from rfl, leB_nat, decide_eq_true_eq] at h
    rw [if_pos (by omega)] at er
    refine ev_new hp fun b3 A2 hp => ?_
    refine key [UInt8.ofNat r] (by rw [er]) (Nat.le_of_ble_eq_true rfl) A2 b3 _ _ (by rw [wrapU8, Nat.mod_eq_of_lt (by omega), u8v r (by omega)]; rfl) hp fun a' m A' h' hm => ev_pure (H A' a' m (by rw [er]; exact hm) (by rw [er]; exact h'))
  rw [show (127 : Int) = ((127 : Nat) : Int) from rfl, leB_nat, decide_eq_false_iff_not] at h
  refine Goes.use (d := 1) ?_ hn
  refine t62 (d := 0) ((a, bs.length, bs.length), (r : Int), ()) fun n hn => ?_
  unfold f62 f62c3
  simp only [hw]
  refine ev_ite (fun h2 => ?_) fun h2 => ?_
  · rw [show (2047 : Int) = ((2047 : Nat) : Int) from rfl, leB_nat, decide_eq_true_eq] at h2
    rw [if_neg (by omega), if_pos (by omega)] at er
    refine ev_guard (by decide) (ev_new hp fun b3 A2 hp => ?_)
    refine key [UInt8.ofNat (192 + r / 64), UInt8.ofNat (128 + r % 64)] (by rw [er]) (Nat.le_of_ble_eq_true rfl) A2 b3 _ _ ?_ hp fun a' m A' h' hm => ev_pure ⟨_, rfl, ev_pure (H A' a' m (by rw [er]; exact hm) (by rw [er]; exact h'))⟩
    have e1 : ((r : Nat) : Int).fdiv (2 ^ min (Int.toNat 6) IntKind.i32.bits) = ((r / 64 : Nat) : Int) := shr r 6
    rw [e1, contB, show (192 : Int) = ((6 * 2 ^ 5 : Nat) : Int) from rfl, leadB 6 5 (by omega) (by omega), u8v (6 * 2 ^ 5 + r / 64) (by omega), u8v (128 + r % 64) (by omega)]
    rfl
  rw [show (2047 : Int) = ((2047 : Nat) : Int) from rfl, leB_nat, decide_eq_false_iff_not] at h2
  have three : r < 65536 → Ev (f62c0 (XX os n) LL ((a, bs.length, bs.length), (r : Int), ())) A (fun v A' => ∃ x, (RSh.one (.cell .slice)).prj v = some x ∧ Ev (M.pure (.slice x.1 x.2.1 x.2.2)) A' Q) := fun h3 => by
    rw [if_neg (by omega), if_neg (by omega), if_pos (by omega)] at er
    unfold f62c0
    refine ev_guard (by decide) (ev_guard (by decide) (ev_new hp fun b3 A2 hp => ?_))
    refine key [UInt8.ofNat (224 + r / 4096), UInt8.ofNat (128 + r / 64 % 64), UInt8.ofNat (128 + r % 64)] (by rw [er]) (Nat.le_of_ble_eq_true rfl) A2 b3 _ _ ?_ hp fun a' m A' h' hm => ev_pure ⟨_, rfl, ev_pure (H A' a' m (by rw [er]; exact hm) (by rw [er]; exact h'))⟩
    have e1 : ((r : Nat) : Int).fdiv (2 ^ min (Int.toNat 6) IntKind.i32.bits) = ((r / 64 : Nat) : Int) := shr r 6
    have e2 : ((r : Nat) : Int).fdiv (2 ^ min (Int.toNat 12) IntKind.i32.bits) = ((r / 4096 : Nat) : Int) := shr r 12
    simp only [e1, e2]
    rw [contB, contB, show (224 : Int) = ((14 * 2 ^ 4 : Nat) : Int) from rfl, leadB 14 4 (by omega) (by omega), u8v (14 * 2 ^ 4 + r / 4096) (by omega), u8v (128 + r / 64 % 64) (by omega), u8v (128 + r % 64) (by omega)]
    rfl
  simp only [M.join]
  refine ev_ite (fun h3 => ?_) fun h3 => ?_
  · rw [show (55296 : Int) = ((55296 : Nat) : Int) from rfl, ltB_nat, decide_eq_true_eq] at h3
    exact ev_t rfl (three (by omega))
  rw [show (55296 : Int) = ((55296 : Nat) : Int) from rfl, ltB_nat, decide_eq_false_iff_not] at h3
  refine ev_t (by rw [show (57343 : Int) = ((57343 : Nat) : Int) from rfl, ltB_nat, decide_eq_true_eq]; omega) ?_
  refine ev_ite (fun h4 => ?_) fun h4 => ?_
  · rw [show (65535 : Int) = ((65535 : Nat) : Int) from rfl, leB_nat, decide_eq_true_eq] at h4
    exact three (by omega)
  rw [show (65535 : Int) = ((65535 : Nat) : Int) from rfl, leB_nat, decide_eq_false_iff_not] at h4
  unfold f62c2
  simp only [M.join]
  refine ev_t (by rw [show (65535 : Int) = ((65535 : Nat) : Int) from rfl, ltB_nat, decide_eq_true_eq]; omega) ?_
  refine ev_t (by rw [show (1114111 : Int) = ((1114111 : Nat) : Int) from rfl, leB_nat, decide_eq_true_eq]; omega) ?_
  refine ev_guard (by decide) ?_
  unfold f62c1
  rw [if_neg (by omega), if_neg (by omega), if_neg (by omega)] at er
  refine ev_guard (by decide) (ev_guard (by decide) (ev_new hp fun b3 A2 hp => ?_))
  refine key [UInt8.ofNat (240 + r / 262144), UInt8.ofNat (128 + r / 4096 % 64), UInt8.ofNat (128 + r / 64 % 64), UInt8.ofNat (128 + r % 64)] (by rw [er]) (Nat.le_of_ble_eq_true rfl) A2 b3 _ _ ?_ hp fun a' m A' h' hm => ev_pure ⟨_, rfl, ev_pure (H A' a' m (by rw [er]; exact hm) (by rw [er]; exact h'))⟩
  have e1 : ((r : Nat) : Int).fdiv (2 ^ min (Int.toNat 6) IntKind.i32.bits) = ((r / 64 : Nat) : Int) := shr r 6
  have e2 : ((r : Nat) : Int).fdiv (2 ^ min (Int.toNat 12) IntKind.i32.bits) = ((r / 4096 : Nat) : Int) := shr r 12
  have e3 : ((r : Nat) : Int).fdiv (2 ^ min (Int.toNat 18) IntKind.i32.bits) = ((r / 262144 : Nat) : Int) := shr r 18
  simp only [e1, e2, e3]
  rw [contB, contB, contB, show (240 : Int) = ((30 * 2 ^ 3 : Nat) : Int) from rfl, leadB 30 3 (by omega) (by omega), u8v (30 * 2 ^ 3 + r / 262144) (by omega), u8v (128 + r / 4096 % 64) (by omega), u8v (128 + r / 64 % 64) (by omega), u8v (128 + r % 64) (by omega)]
  rfl
theorem writeRuneG {b : Nat} {p a : Option Addr} {bs : List UInt8} {r : Nat} (hp : Hp (tabsOf os) A (bldr b p a bs l)) (h : p = none ∨ p = some ⟨b, 0, none⟩) (hv : Utf8.valid (r : Int) = true) (hb : bs.length < 2 ^ 40)
    (H : ∀ A' a' v, Hp (tabsOf os) A' (bldr b (some ⟨b, 0, none⟩) a' (bs ++ (Utf8.encode (r : Int)).data.toList) l) → Q (.tuple ⟨[.int .i64 v, .nilIface]⟩) A') : Goes (XX os) 3 27 [.pointer (some ⟨b, 0, none⟩), .int .i32 (r : Int)] A Q := by
  refine t27 (d := 2) (some ⟨b, 0, none⟩, (r : Int), ()) fun n hn => ?_
  unfold f27
  refine ((copyG hp h fun A1 hp => ⟨(), rfl, ?_⟩).mono (show 1 ≤ 2 by decide)).use hn
  unfold f27c0
  refine ev_load 0 hp rfl rfl rfl (Nat.le_of_ble_eq_true rfl) rfl ?_
  refine ev_load 0 hp rfl rfl rfl (Nat.le_of_ble_eq_true rfl) rfl ?_
  refine (appendRuneG (hp.front 1 rfl) hv hb fun A' a' m hm hp => ⟨(a', m, m), rfl, ?_⟩).use hn
  refine ev_store 1 hp rfl rfl (Nat.le_of_ble_eq_true rfl) rfl fun A4 hp => ?_
  refine ev_load 1 hp rfl rfl rfl (Nat.le_of_ble_eq_true rfl) rfl ?_
  refine ev_pure (H A4 a' _ ?_)
  unfold bldr
  rw [← hm]
  exact hp.front 1 rfl
end
end Go.Proofs.YtlcigkdflbfdgaaDoor.sh
