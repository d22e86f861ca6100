/-
  Walks: strings.Builder, AppendRune.
-/
import Derived.Test.YtidadbppnmnfmaaGreatDoorPaW1
namespace Go.Proofs.YtidadbppnmnfmaaGreatDoor.pa
open Go Go.Eng Go.Sh
section
variable {os : List (Nat × AObj)} {A : AW} {Q : Value → AW → Prop} {l : List Thing}
/-- A Builder that lies at b, and its bytes. -/
abbrev bldr (b : Nat) (p a : Option Addr) (bs : List UInt8) (l : List Thing) : List Thing := .cells b [.pointer p, .slice a bs.length bs.length] 63 false (0, 0) false :: .vec 5 1 false a bs.length bs.length (u8s bs) :: l
theorem veqv_slice (a : Option Addr) (n c : Nat) : veqv (.slice a n c) (.slice a n c) = true := by
  simp [veqv, veq1]
theorem copyG {b : Nat} {p : Option Addr} {v : Value} (hp : Hp (tabsOf os) A (.cells b [.pointer p, v] 63 false (0, 0) false :: l)) (h : p = none ∨ p = some ⟨b, 0, none⟩)
    (H : ∀ A', Hp (tabsOf os) A' (.cells b [.pointer (some ⟨b, 0, none⟩), v] 63 false (0, 0) false :: l) → Q (.tuple ⟨[]⟩) A') : Goes (XX os) 1 41 [.pointer (some ⟨b, 0, none⟩)] A Q := by
  refine t41 (d := 0) (some ⟨b, 0, none⟩, ()) fun n hn => ?_
  unfold f41
  refine ev_load 0 hp rfl rfl rfl (Nat.le_of_ble_eq_true rfl) rfl (ev_eqPtr_nil ?_)
  rcases h with rfl | rfl
  · refine ev_t rfl ?_
    refine ev_unsafe 0 hp rfl (t := 63) (by kernel_rfl) (by kernel_rfl) (Nat.le_of_ble_eq_true rfl) (by kernel_rfl) ?_
    refine ev_unsafe_back 0 hp rfl (t := 63) (by kernel_rfl) (by kernel_rfl) (by kernel_rfl) (by kernel_rfl) ?_
    exact ev_store 0 hp rfl rfl (Nat.le_of_ble_eq_true rfl) rfl fun A1 hp => ev_pure (H A1 hp)
  · refine ev_f rfl ?_
    refine ev_load 0 hp rfl rfl rfl (Nat.le_of_ble_eq_true rfl) rfl (ev_eqPtr_same 0 hp rfl ?_)
    exact ev_f rfl (ev_pure (H A hp))
theorem writeStringG {b : Nat} {p a : Option Addr} {bs : List UInt8} (s : List UInt8) (hp : Hp (tabsOf os) A (bldr b p a bs l)) (h : p = none ∨ p = some ⟨b, 0, none⟩) (hb : bs.length + s.length < 2 ^ 40)
    (H : ∀ A' a', Hp (tabsOf os) A' (bldr b (some ⟨b, 0, none⟩) a' (bs ++ s) l) → Q (.tuple ⟨[.int .i64 (s.length : Int), .nilIface]⟩) A') : Goes (XX os) 2 29 [.pointer (some ⟨b, 0, none⟩), .string (BA s)] A Q := by
  refine t29 (d := 1) (some ⟨b, 0, none⟩, BA s, ()) fun n hn => ?_
  unfold f29
  refine (copyG hp h fun A1 hp => ⟨(), rfl, ?_⟩).use hn
  refine ev_load 0 hp rfl rfl rfl (Nat.le_of_ble_eq_true rfl) rfl ?_
  refine ev_append_str 1 hp rfl (by show (2 * (bs.length + s.length) + 200) * 1 ≤ 2 ^ 48; omega) fun A3 a' hp => ?_
  refine ev_store 0 hp rfl rfl (Nat.le_of_ble_eq_true rfl) rfl fun A4 hp => ev_pure (H A4 a' ?_)
  have e : (bs ++ s).length = bs.length + s.length := List.length_append
  unfold bldr
  rw [e, u8s_append]
  exact hp
theorem stringG {b : Nat} {p a : Option Addr} {bs : List UInt8} (hp : Hp (tabsOf os) A (bldr b p a bs l)) (hb : bs.length < 2 ^ 40) (hna : a = none ∨ 1 ≤ bs.length)
    (H : ∀ A', Hp (tabsOf os) A' l → Q (.string (BA bs)) A') : Goes (XX os) 1 30 [.pointer (some ⟨b, 0, none⟩)] A Q := by
  refine t30 (d := 0) (some ⟨b, 0, none⟩, ()) fun n hn => ?_
  unfold f30
  refine ev_load 0 hp rfl rfl rfl (Nat.le_of_ble_eq_true rfl) rfl ?_
  refine ev_load 0 hp rfl rfl rfl (Nat.le_of_ble_eq_true rfl) rfl ?_
  refine ev_sliceData hna ?_
  refine ev_load 0 hp rfl rfl rfl (Nat.le_of_ble_eq_true rfl) rfl ?_
  refine ev_cond_t (veqv_slice _ _ _) ?_
  refine ev_unsafeString 1 hp rfl (u := 5) (by kernel_rfl) (by kernel_rfl) (by kernel_rfl) (by show bs.length < _; omega) hna fun A1 hp => ev_pure ?_
  exact H A1 hp.tail
theorem wrapU8 (a : Nat) : wrapW .u8 (a : Int) = ((a % 256 : Nat) : Int) := by
  rw [wrapW_eq]
  simp only [IntKind.wrap, show IntKind.u8.bits = 8 from rfl, show IntKind.u8.signed = false from rfl, Bool.false_and, Bool.false_eq_true, if_false]
  omega
theorem contB (q : Nat) : orW .u8 128 (andW .u8 (wrapW .u8 (q : Int)) 63) = ((128 + q % 64 : Nat) : Int) := by
  rw [wrapU8, show (63 : Int) = ((63 : Nat) : Int) from rfl, andW_nat .u8 (topU8 (by omega)) (topU8 (by decide)), show (63 : Nat) = 2 ^ 6 - 1 from rfl, and_low, show (128 : Int) = ((2 * 2 ^ 6 : Nat) : Int) from rfl,
    orW_nat .u8 (topU8 (by decide)) (topU8 (by omega)), or_low (by omega)]
  exact congrArg _ (by omega)
theorem leadB (a k : Nat) {q : Nat} (hq : q < 2 ^ k) (h : a * 2 ^ k + q < 256) : orW .u8 ((a * 2 ^ k : Nat) : Int) (wrapW .u8 (q : Int)) = ((a * 2 ^ k + q : Nat) : Int) := by
  rw [wrapU8, Nat.mod_eq_of_lt (by omega), orW_nat .u8 (topU8 (by omega)) (topU8 (by omega)), or_low hq]
theorem shr (r k : Nat) : ((r : Nat) : Int).fdiv (2 ^ k) = ((r / 2 ^ k : Nat) : Int) := by
  have := fdiv_nat r (2 ^ k)
  rw [← this]
  simp
theorem u8v (n : Nat) (h : n < 256) : (Value.int .u8 (n : Int)) = .int .u8 ((UInt8.ofNat n).toNat : Int) := by
  rw [UInt8.toNat_ofNat', Nat.mod_eq_of_lt h]
end
end Go.Proofs.YtidadbppnmnfmaaGreatDoor.pa
