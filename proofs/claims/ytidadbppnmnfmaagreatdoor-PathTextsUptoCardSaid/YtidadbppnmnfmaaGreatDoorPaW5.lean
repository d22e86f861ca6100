/-
  Walks: the document's Rune.
-/
import Derived.Test.YtidadbppnmnfmaaGreatDoorPaW3
namespace Go.Proofs.YtidadbppnmnfmaaGreatDoor.pa
open Go Go.Eng Go.Sh
section
variable {os : List (Nat × AObj)} {A : AW} {Q : Value → AW → Prop} {l : List Thing}
def rnV (p : Nat × Nat × Bool) : Value := .tuple ⟨[.int .i32 (p.1 : Int), .int .i64 (p.2.1 : Int), .bool p.2.2]⟩
theorem accR_lt (s : List UInt8) (r k : Nat) (hr : r < 64) (hk : ∀ j, j < k → at' s (j + 1) < 192) : accR s r k < 64 ^ (k + 1) := by
  induction k with
  | zero => rw [accR_zero]; simpa using hr
  | succ k ih =>
    have := ih fun j hj => hk j (by omega)
    have h2 := hk k (by omega)
    rw [accR_succ, Nat.pow_succ]
    omega
theorem refTailG (s : List UInt8) (p : Nat × Nat × Nat) (hp1 : p.1 = 2 ∨ p.1 = 3 ∨ p.1 = 4) (hlen : p.1 ≤ s.length) (hr : p.2.2 < 64) (hp : Hp (tabsOf os) A l) (H : ∀ A', Hp (tabsOf os) A' l → Q (rnV (refTail s p)) A') (n : Nat) :
    Ev (f40c1 (XX os n) LL (BA s, ()) ((p.1 : Int), (p.2.1 : Int), (p.2.2 : Int), ())) A Q := by
  obtain ⟨m, least, r0⟩ := p
  simp only at *
  unfold f40c1
  have ht : refTail s (m, least, r0) = if (List.range (m - 1)).all (fun i => okB' s (i + 1)) then
      if accR s r0 (m - 1) < least ∨ accR s r0 (m - 1) > 0x10ffff ∨ (accR s r0 (m - 1) ≥ 0xd800 ∧ accR s r0 (m - 1) < 0xe000) then (0xfffd, 1, true) else (accR s r0 (m - 1), m, false)
      else (0xfffd, 1, true) := by
    unfold refTail
    rw [if_neg (by simp only; omega)]
  rw [ht] at H
  refine ev_bind (ev_LL (fun μ st A' => ∃ i, 1 ≤ i ∧ i ≤ m ∧ μ = m - i ∧ st = (((accR s r0 (i - 1) : Nat) : Int), ((i : Nat) : Int), ()) ∧ Hp (tabsOf os) A' l ∧ ∀ j, j < i - 1 → okB' s (j + 1) = true) (m := m - 1) ⟨1, by decide, by omega, rfl, rfl, hp, fun j hj => by omega⟩ (by omega) ?_)
  rintro μ st A1 ⟨i, hi1, him, rfl, rfl, hp, hok⟩
  unfold f40c0
  simp only [ltB_nat, M.join, inB_nat, BA_size]
  refine ev_ite (fun h => ?_) fun h => ?_
  · rw [decide_eq_true_eq] at h
    have hb := at_lt s i
    rw [at_byteAt]
    have bad : okB' s i = false → Q (rnV (0xfffd, 1, true)) A1 := fun hbad => by
      have hall : (List.range (m - 1)).all (fun i => okB' s (i + 1)) = false := by
        rw [List.all_eq_false]
        exact ⟨i - 1, by simp; omega, by rw [show i - 1 + 1 = i by omega, hbad]; simp⟩
      rw [hall] at H
      exact H A1 hp
    refine ev_guard (decide_eq_true (by omega)) ?_
    rw [ltB_lit]
    refine ev_ite (fun h1 => ?_) fun h1 => ?_
    · rw [decide_eq_true_eq] at h1
      exact ev_t rfl (ev_pure (ev_pure (bad (by unfold okB'; rw [decide_eq_true h1]; rfl))))
    rw [decide_eq_false_iff_not] at h1
    refine ev_guard (decide_eq_true (by omega)) ?_
    rw [ltB_lit']
    refine ev_ite (fun h2 => ?_) fun h2 => ?_
    · rw [decide_eq_true_eq] at h2
      exact ev_pure (ev_pure (bad (by unfold okB'; rw [decide_eq_true (show at' s i > 0xbf from h2)]; simp)))
    rw [decide_eq_false_iff_not] at h2
    have hoki : okB' s i = true := by unfold okB'; rw [decide_eq_false h1, decide_eq_false (show ¬ at' s i > 0xbf from h2)]; rfl
    have hlt := accR_lt s r0 (i - 1) hr fun j hj => by
      have := hok j hj
      unfold okB' at this
      simp only [Bool.not_eq_true', Bool.or_eq_false_iff, decide_eq_false_iff_not] at this
      omega
    have hpow : 64 ^ (i - 1 + 1) ≤ 64 ^ 4 := Nat.pow_le_pow_right (by decide) (by omega)
    have hp4 : (64 : Nat) ^ 4 = 16777216 := by decide
    refine ev_guard (decide_eq_true (by omega)) (ev_pure ⟨m - (i + 1), by omega, i + 1, by omega, by omega, rfl, ?_, hp, fun j hj => ?_⟩)
    · rw [mulW_lit (by omega), wrap_i64n (by omega), addW_i64 (by omega), subW_lit (by omega) (by omega), addW_1 (by omega), show i + 1 - 1 = (i - 1) + 1 by omega, accR_succ, show i - 1 + 1 = i by omega]
    · by_cases e : j = i - 1
      · rw [e, show i - 1 + 1 = i by omega]; exact hoki
      · exact hok j (by omega)
  · rw [decide_eq_false_iff_not] at h
    obtain rfl : i = m := by omega
    have hall : (List.range (i - 1)).all (fun i => okB' s (i + 1)) = true := by
      rw [List.all_eq_true]
      intro j hj
      exact hok j (by simpa using hj)
    rw [hall, if_pos rfl] at H
    refine ev_pure ?_
    simp only [Round, M.sum]
    have hlt := accR_lt s r0 (i - 1) hr fun j hj => by
      have := hok j hj
      unfold okB' at this
      simp only [Bool.not_eq_true', Bool.or_eq_false_iff, decide_eq_false_iff_not] at this
      omega
    have hpow : 64 ^ (i - 1 + 1) ≤ 64 ^ 4 := Nat.pow_le_pow_right (by decide) (by omega)
    have hp4 : (64 : Nat) ^ 4 = 16777216 := by decide
    generalize accR s r0 (i - 1) = r at *
    rw [ltB_nat, ltB_lit', leB_lit', ltB_lit]
    have fin : ∀ b : Bool, b = decide (r < least ∨ r > 0x10ffff ∨ (r ≥ 0xd800 ∧ r < 0xe000)) → Q (rnV (if b then (0xfffd, 1, true) else (r, i, false))) A1 := fun b hb => by
      subst hb
      have := H A1 hp
      by_cases hc : r < least ∨ r > 0x10ffff ∨ (r ≥ 0xd800 ∧ r < 0xe000)
      · rw [if_pos hc] at this
        rw [decide_eq_true hc]
        exact this
      · rw [if_neg hc] at this
        rw [decide_eq_false hc]
        exact this
    have w32 : wrapW .i32 ((r : Nat) : Int) = (r : Int) := wrapW_nat (topI32 (by omega))
    simp only [w32]
    refine ev_ite (fun h1 => ?_) fun h1 => ?_
    · rw [decide_eq_true_eq] at h1
      exact ev_t rfl (ev_pure (fin true (decide_eq_true (.inl h1)).symm))
    rw [decide_eq_false_iff_not] at h1
    refine ev_ite (fun h2 => ?_) fun h2 => ?_
    · rw [decide_eq_true_eq] at h2
      exact ev_t rfl (ev_pure (fin true (decide_eq_true (.inr (.inl h2))).symm))
    rw [decide_eq_false_iff_not] at h2
    refine ev_ite (fun h3 => ?_) fun h3 => ?_
    · rw [decide_eq_true_eq] at h3
      refine ev_ite (fun h4 => ?_) fun h4 => ?_
      · rw [decide_eq_true_eq] at h4
        exact ev_pure (fin true (decide_eq_true (.inr (.inr ⟨h3, h4⟩))).symm)
      · rw [decide_eq_false_iff_not] at h4
        exact ev_pure (fin false (decide_eq_false (by omega)).symm)
    · rw [decide_eq_false_iff_not] at h3
      exact ev_f rfl (ev_pure (fin false (decide_eq_false (by omega)).symm))
theorem refRuneG {s : List UInt8} (hl : s ≠ []) : Gives (tabsOf os) (XX os) 1 40 [.string (BA s)] (rnV ((rune s).1, (rune s).2, bad s)) := by
  intro A l Q hp H
  rw [← refRune_eq] at H
  have hlen : 0 < s.length := List.length_pos_iff.2 hl
  have hb := at_lt s 0
  refine t40 (d := 0) (BA s, ()) fun n hn => ?_
  unfold f40
  simp only [inB_0, BA_size, at_byteAt0]
  refine ev_guard (decide_eq_true hlen) ?_
  rw [wrap_i64n (by omega), ltB_lit]
  refine ev_ite (fun h => ?_) fun h => ?_
  · rw [decide_eq_true_eq] at h
    have : refRune s = (at' s 0, 1, false) := by unfold refRune; simp only [if_pos h]
    rw [this] at H
    rw [wrapW_nat (topI32 (by omega))]
    exact ev_pure (H A hp)
  rw [decide_eq_false_iff_not] at h
  rw [refRune_tail h] at H
  refine ev_join (fun j A' => j = ((((headP (at' s 0)).1 : Nat) : Int), (((headP (at' s 0)).2.1 : Nat) : Int), (((headP (at' s 0)).2.2 : Nat) : Int), ()) ∧ Hp (tabsOf os) A' l) ?_ fun go hgo => ?_
  · rintro _ A1 ⟨rfl, hp⟩
    have hpc : (headP (at' s 0)).1 = 0 ∨ (((headP (at' s 0)).1 = 2 ∨ (headP (at' s 0)).1 = 3 ∨ (headP (at' s 0)).1 = 4) ∧ (headP (at' s 0)).2.2 < 64) := by
      unfold headP
      (repeat' split) <;> simp <;> omega
    generalize headP (at' s 0) = p at *
    obtain ⟨m, least, r0⟩ := p
    simp only at *
    simp only [M.join, ltB_nat]
    rw [eqB_lit]
    have bad : m = 0 ∨ s.length < m → Q (rnV (0xfffd, 1, true)) A1 := fun hc => by
      have := H A1 hp
      unfold refTail at this
      rwa [if_pos hc] at this
    refine ev_ite (fun h1 => ?_) fun h1 => ?_
    · rw [decide_eq_true_eq] at h1
      exact ev_t rfl (ev_pure (bad (.inl h1)))
    rw [decide_eq_false_iff_not] at h1
    refine ev_ite (fun h2 => ?_) fun h2 => ?_
    · rw [decide_eq_true_eq] at h2
      exact ev_pure (bad (.inr h2))
    rw [decide_eq_false_iff_not] at h2
    rcases hpc with e | ⟨e1, e2⟩
    · exact absurd e h1
    · exact refTailG s (m, least, r0) e1 (by simp only; omega) e2 hp H n
  · unfold f40c2
    simp only [M.join]
    have hgo' : ∀ p : Nat × Nat × Nat, p = headP (at' s 0) → Ev (go ((p.1 : Int), (p.2.1 : Int), (p.2.2 : Int), ())) A Q := fun p e => hgo _ A ⟨by rw [e], hp⟩
    unfold headP at hgo'
    generalize at' s 0 = c at *
    by_cases h1 : 192 ≤ c
    · by_cases h2 : c < 224
      · refine ev_t (by rw [leB_lit']; exact decide_eq_true h1) (ev_t (by rw [ltB_lit]; exact decide_eq_true h2) ?_)
        rw [subW_lit h1 (by omega)]
        exact hgo' (2, 128, c - 192) (by rw [if_pos ⟨h1, h2⟩])
      · refine ev_t (by rw [leB_lit']; exact decide_eq_true h1) (ev_f (by rw [ltB_lit]; exact decide_eq_false h2) ?_)
        by_cases h3 : c < 240
        · refine ev_t (by rw [leB_lit']; exact decide_eq_true (by omega)) (ev_t (by rw [ltB_lit]; exact decide_eq_true h3) ?_)
          rw [subW_lit (by omega) (by omega)]
          exact hgo' (3, 2048, c - 224) (by rw [if_neg (by omega), if_pos ⟨by omega, h3⟩])
        · refine ev_t (by rw [leB_lit']; exact decide_eq_true (by omega)) (ev_f (by rw [ltB_lit]; exact decide_eq_false h3) ?_)
          by_cases h4 : c < 248
          · refine ev_t (by rw [leB_lit']; exact decide_eq_true (by omega)) (ev_t (by rw [ltB_lit]; exact decide_eq_true h4) ?_)
            rw [subW_lit (by omega) (by omega)]
            exact hgo' (4, 65536, c - 240) (by rw [if_neg (by omega), if_neg (by omega), if_pos ⟨by omega, h4⟩])
          · refine ev_t (by rw [leB_lit']; exact decide_eq_true (by omega)) (ev_f (by rw [ltB_lit]; exact decide_eq_false h4) ?_)
            exact hgo' (0, 0, 0) (by rw [if_neg (by omega), if_neg (by omega), if_neg (by omega)])
    · refine ev_f (by rw [leB_lit']; exact decide_eq_false h1) (ev_f rfl (ev_f (by rw [leB_lit']; exact decide_eq_false (by omega)) (ev_f rfl (ev_f (by rw [leB_lit']; exact decide_eq_false (by omega)) (ev_f rfl ?_)))))
      exact hgo' (0, 0, 0) (by rw [if_neg (by omega), if_neg (by omega), if_neg (by omega)])
end
end Go.Proofs.YtidadbppnmnfmaaGreatDoor.pa
