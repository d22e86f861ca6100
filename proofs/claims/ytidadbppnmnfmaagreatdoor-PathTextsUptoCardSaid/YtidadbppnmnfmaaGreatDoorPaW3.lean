/-
  Walks: names.Whole, shell.Quote.
-/
import Derived.Test.YtidadbppnmnfmaaGreatDoorPaW2
namespace Go.Proofs.YtidadbppnmnfmaaGreatDoor.pa
open Go Go.Eng Go.Sh
section
variable {os : List (Nat × AObj)} {A : AW} {Q : Value → AW → Prop} {l : List Thing}
theorem ev_LL {σ ρ : Type} {f : σ → M (σ ⊕ ρ)} {A : AW} {Q : ρ → AW → Prop} {s : σ} {m : Nat} (Inv : Nat → σ → AW → Prop) (h : Inv m s A) (hm : m < 1000000000000)
    (step : ∀ m s A, Inv m s A → Ev (f s) A (Round (fun s' A' => ∃ m', m' < m ∧ Inv m' s' A') Q)) : Ev (LL f s) A Q := ev_loop Inv step h hm
theorem decode_BA (s : List UInt8) (i : Nat) : Utf8.decode (BA s) i = rune (s.drop i) := by
  rw [decode_eq, dec_rune]; rfl
theorem drop_cons {s : List UInt8} {i : Nat} (h : i < s.length) : ∃ c t, s.drop i = c :: t := by
  cases hd : s.drop i with
  | nil =>
    have := congrArg List.length hd
    rw [List.length_drop] at this
    have h9 : s.length - i = 0 := this
    omega
  | cons c t => exact ⟨c, t, rfl⟩
theorem rune_len_drop {s : List UInt8} {i : Nat} (h : i < s.length) : i + (rune (s.drop i)).2 ≤ s.length := by
  obtain ⟨c, t, e⟩ := drop_cons h
  have := rune_len (l := s.drop i) (by rw [e]; simp)
  rw [List.length_drop] at this
  omega
theorem wholeG (s : List UInt8) (hs : s.length < 2 ^ 38) (hr : Runes os) : Gives (tabsOf os) (XX os) 3 25 [.string (BA s)] (.bool (whole s)) := by
  intro A l Q hp H
  refine t25 (d := 2) (BA s, ()) fun n hn => ?_
  unfold f25
  refine ev_iter hp fun b A1 hp => ?_
  unfold f25c0
  refine ev_bind (ev_LL (fun m _ A' => ∃ pos, m = s.length - pos ∧ pos ≤ s.length ∧ Hp (tabsOf os) A' (.iter b (BA s) pos :: l) ∧ whole s = whole (s.drop pos)) (m := s.length) ⟨0, rfl, by omega, hp, rfl⟩ (by omega) ?_)
  rintro m _ A2 ⟨pos, rfl, hpos, hp, hw⟩
  refine ev_next 0 hp rfl (fun hge => ?_) fun hlt A3 hp => ?_
  · refine ev_pure (ev_pure ?_)
    rw [BA_size] at hge
    rw [List.drop_of_length_le hge, whole] at hw
    rw [hw] at H
    exact H A2 hp.tail
  rw [BA_size] at hlt
  rw [decode_BA] at hp ⊢
  have hle := rune_len_drop hlt
  obtain ⟨c, t, e⟩ := drop_cons hlt
  have hpos2 := rune_pos (s.drop pos)
  simp only [upB_nat, BA_size]
  refine ev_guard (decide_eq_true (by omega)) ?_
  rw [Int.toNat_natCast, BA_till]
  refine (decodeG (l := s.drop pos) (by rw [e]; simp) hr).use hn hp rfl fun A4 hp => ?_
  simp only [M.join]
  have hstep := hw
  rw [e, whole, ← e] at hstep
  refine ev_ite (fun h => ?_) fun h => ?_
  · rw [show (65533 : Int) = ((65533 : Nat) : Int) from rfl, eqB_nat, decide_eq_true_eq] at h
    refine ev_ite (fun h2 => ?_) fun h2 => ?_
    · rw [show (1 : Int) = ((1 : Nat) : Int) from rfl, eqB_nat, decide_eq_true_eq] at h2
      rw [if_pos ⟨h, h2⟩] at hstep
      rw [hstep] at H
      exact ev_pure (ev_pure (H A4 hp.tail))
    · rw [show (1 : Int) = ((1 : Nat) : Int) from rfl, eqB_nat, decide_eq_false_iff_not] at h2
      rw [if_neg (fun q => h2 q.2), List.drop_drop] at hstep
      exact ev_pure ⟨_, by omega, _, rfl, hle, hp, hstep⟩
  · rw [show (65533 : Int) = ((65533 : Nat) : Int) from rfl, eqB_nat, decide_eq_false_iff_not] at h
    rw [if_neg (fun q => h q.1), List.drop_drop] at hstep
    exact ev_f rfl (ev_pure ⟨_, by omega, _, rfl, hle, hp, hstep⟩)
end
end Go.Proofs.YtidadbppnmnfmaaGreatDoor.pa
