/-
  Walks: names.Whole, shell.Quote.
-/
import Derived.Test.YtlcigkdflbfdgaaDoorShW2
namespace Go.Proofs.YtlcigkdflbfdgaaDoor.sh
open Go Go.Eng Go.Sh
section
variable {os : List (Nat × AObj)} {A : AW} {Q : Value → AW → Prop} {l : List Thing}
theorem ev_LL {σ ρ : Type} {f : σ → M (σ ⊕ ρ)} {A : AW} {Q : ρ → AW → Prop} {s : σ} {m : Nat} (Inv : Nat → σ → AW → Prop) (h : Inv m s A) (hm : m < 1000000000000)
    (step : ∀ m s A, Inv m s A → Ev (f s) A (Round (fun s' A' => ∃ m', m' < m ∧ Inv m' s' A') Q)) : Ev (LL f s) A Q := ev_loop Inv step h hm
theorem decode_BA (s : List UInt8) (i : Nat) : Utf8.decode (BA s) i = rune (s.drop i) := by
  rw [decode_eq, dec_rune]; rfl
theorem drop_cons {s : List UInt8} {i : Nat} (h : i < s.length) : ∃ c t, s.drop i = c :: t := by
  cases hd : s.drop i with
  | nil =>
    have := congrArg List.length hd
    rw [List.length_drop] at this
    have h9 : s.length - i = 0 := this
    omega
  | cons c t => exact ⟨c, t, rfl⟩
theorem rune_len_drop {s : List UInt8} {i : Nat} (h : i < s.length) : i + (rune (s.drop i)).2 ≤ s.length := by
  obtain ⟨c, t, e⟩ := drop_cons h
  have := rune_len (l := s.drop i) (by rw [e]; simp)
  rw [List.length_drop] at this
  omega
theorem wholeG (s : List UInt8) (hs : s.length < 2 ^ 38) (hr : Runes os) : Gives (tabsOf os) (XX os) 3 25 [.string (BA s)] (.bool (whole s)) := by
  intro A l Q hp H
  refine t25 (d := 2) (BA s, ()) fun n hn => ?_
  unfold f25
  refine ev_iter hp fun b A1 hp => ?_
  unfold f25c0
  refine ev_bind (ev_LL (fun m _ A' => ∃ pos, m = s.length - pos ∧ pos ≤ s.length ∧ Hp (tabsOf os) A' (.iter b (BA s) pos :: l) ∧ whole s = whole (s.drop pos)) (m := s.length) ⟨0, rfl, by omega, hp, rfl⟩ (by omega) ?_)
  rintro m _ A2 ⟨pos, rfl, hpos, hp, hw⟩
  refine ev_next 0 hp rfl (fun hge => ?_) fun hlt A3 hp => ?_
  · refine ev_pure (ev_pure ?_)
    rw [BA_size] at hge
    rw [List.drop_of_length_le hge, whole] at hw
    rw [hw] at H
    exact H A2 hp.tail
  rw [BA_size] at hlt
  rw [decode_BA] at hp ⊢
  have hle := rune_len_drop hlt
  obtain ⟨c, t, e⟩ := drop_cons hlt
  have hpos2 := rune_pos (s.drop pos)
  simp only [upB_nat, BA_size]
  refine ev_guard (decide_eq_true (by omega)) ?_
  rw [Int.toNat_natCast, BA_till]
  refine (decodeG (l := s.drop pos) (by rw [e]; simp) hr).use hn hp rfl fun A4 hp => ?_
  simp only [M.join]
  have hstep := hw
  rw [e, whole, ← e] at hstep
  refine ev_ite (fun h => ?_) fun h => ?_
  · rw [show (65533 : Int) = ((65533 : Nat) : Int) from rfl, eqB_nat, decide_eq_true_eq] at h
    refine ev_ite (fun h2 => ?_) fun h2 => ?_
    · rw [show (1 : Int) = ((1 : Nat) : Int) from rfl, eqB_nat, decide_eq_true_eq] at h2
      rw [if_pos ⟨h, h2⟩] at hstep
      rw [hstep] at H
      exact ev_pure (ev_pure (H A4 hp.tail))
    · rw [show (1 : Int) = ((1 : Nat) : Int) from rfl, eqB_nat, decide_eq_false_iff_not] at h2
      rw [if_neg (fun q => h2 q.2), List.drop_drop] at hstep
      exact ev_pure ⟨_, by omega, _, rfl, hle, hp, hstep⟩
  · rw [show (65533 : Int) = ((65533 : Nat) : Int) from rfl, eqB_nat, decide_eq_false_iff_not] at h
    rw [if_neg (fun q => h q.1), List.drop_drop] at hstep
    exact ev_f rfl (ev_pure ⟨_, by omega, _, rfl, hle, hp, hstep⟩)
theorem hex_at : ∀ n : Fin 16, byteAt st1 (n.val : Int) = ((hexd n.val).toNat : Int) := by decide +kernel
theorem app3 {α : Type} (a : List α) (x : α) (b c : List α) : a ++ (x :: b ++ c) = (a ++ [x] ++ b) ++ c := by simp
theorem quoteGG (s : List UInt8) (hs : s.length < 2 ^ 37) (hr : Runes os) : Gives (tabsOf os) (XX os) 4 9 [.string (BA s)] (.string (BA (word s))) := by
  intro A l Q hp H
  refine t9 (d := 3) (BA s, ()) fun n hn => ?_
  unfold f9
  refine ev_new hp fun b0 A1 hp => ?_
  have hp := (hp.vec0 5 1 false).front 1 rfl
  refine (writeByteG (bs := []) 34 hp (.inl rfl) (by show 0 < 2 ^ 40; omega) fun A2 a2 hp => ⟨_, rfl, ?_⟩).mono (show 2 ≤ 3 by decide) |>.use hn
  refine ev_iter hp fun b2 A3 hp => ?_
  unfold f9c3
  refine ev_bind (ev_LL (fun m _ A' => ∃ pos a bs, m = s.length - pos ∧ pos ≤ s.length ∧ Hp (tabsOf os) A' (.iter b2 (BA s) pos :: bldr b0 (some ⟨b0, 0, none⟩) a bs l) ∧ 34 :: quoteG s = bs ++ quoteG (s.drop pos) ∧ bs.length ≤ 1 + 4 * pos ∧ 1 ≤ bs.length) (m := s.length)
    ⟨0, a2, [34], rfl, by omega, hp, rfl, by simp, by simp⟩ (by omega) ?_)
  rintro m _ A4 ⟨pos, a, bs, rfl, hpos, hp, hw, hlb, hl1⟩
  refine ev_next 0 hp rfl (fun hge => ?_) fun hlt A5 hp => ?_
  · refine ev_pure ?_
    rw [BA_size] at hge
    rw [List.drop_of_length_le hge, quoteG, List.append_nil] at hw
    refine (writeByteG 34 hp.tail (.inr rfl) (by omega) fun A6 a6 hp => ⟨_, rfl, ?_⟩).mono (show 2 ≤ 3 by decide) |>.use hn
    refine (stringG hp (by simp; omega) (.inr (by simp)) fun A7 hp => ⟨_, rfl, ev_pure ?_⟩).mono (show 1 ≤ 3 by decide) |>.use hn
    have e : bs ++ [34] = word s := by rw [← hw, quoteG_eq s.length s (Nat.le_refl _)]; rfl
    rw [e]
    exact H A7 hp
  rw [BA_size] at hlt
  rw [decode_BA] at hp ⊢
  have hle := rune_len_drop hlt
  obtain ⟨c, t, e⟩ := drop_cons hlt
  have hpos2 := rune_pos (s.drop pos)
  simp only [upB_nat, BA_size]
  refine ev_guard (decide_eq_true (by omega)) ?_
  rw [Int.toNat_natCast, BA_till]
  refine ((decodeG (l := s.drop pos) (by rw [e]; simp) hr).mono (show 2 ≤ 3 by decide)).use hn hp rfl fun A6 hp => ?_
  have hq : quoteG (s.drop pos) = (if (rune (c :: t)).1 < 32 ∨ (rune (c :: t)).1 = 127 ∨ whole ((c :: t).take (rune (c :: t)).2) = false then [92, 120, hexd (c.toNat / 16), hexd (c.toNat % 16)]
      else if (rune (c :: t)).1 = 34 ∨ (rune (c :: t)).1 = 92 then 92 :: (Utf8.encode (((rune (c :: t)).1 : Nat) : Int)).data.toList
      else (Utf8.encode (((rune (c :: t)).1 : Nat) : Int)).data.toList) ++ quoteG (s.drop (pos + (rune (c :: t)).2)) := by
    rw [e, quoteG, ← e, List.drop_drop]
  rw [← e] at hq
  refine ev_join (fun _ A' => ∃ a' bs', Hp (tabsOf os) A' (.iter b2 (BA s) (pos + (rune (s.drop pos)).2) :: bldr b0 (some ⟨b0, 0, none⟩) a' bs' l) ∧ 34 :: quoteG s = bs' ++ quoteG (s.drop (pos + (rune (s.drop pos)).2)) ∧ bs'.length ≤ 1 + 4 * (pos + (rune (s.drop pos)).2) ∧ 1 ≤ bs'.length) ?_ fun go hgo => ?_
  · rintro _ A7 ⟨a', bs', g1, g2, g3, g4⟩
    exact ev_pure ⟨_, by omega, _, _, _, rfl, hle, g1, g2, g3, g4⟩
  have ht2 : ((s.drop pos).take (rune (s.drop pos)).2).length ≤ 2 ^ 37 := by rw [List.length_take, List.length_drop]; omega
  generalize hR : rune (s.drop pos) = R at *
  obtain ⟨r, m⟩ := R
  simp only at *
  unfold f9c2
  refine ev_join (fun j A' => Hp (tabsOf os) A' (.iter b2 (BA s) (pos + m) :: bldr b0 (some ⟨b0, 0, none⟩) a bs l) ∧ j = (decide (r < 32 ∨ r = 127 ∨ whole ((s.drop pos).take m) = false), ())) ?_ fun go2 hgo2 => ?_
  · rintro _ A7 ⟨hp, rfl⟩
    simp only
    refine ev_ite (fun h => ?_) fun h => ?_
    · rw [decide_eq_true_eq] at h
      rw [if_pos h] at hq
      have hc : byteAt (BA s) (pos : Int) = (c.toNat : Int) := by
        rw [at_byteAt]
        have : at' s pos = at' (s.drop pos) 0 := by unfold at'; rw [List.getElem?_drop, Nat.add_zero]
        rw [this, e]; rfl
      have hcl : c.toNat < 256 := c.toNat_lt
      simp only [hc, inB_nat, BA_size]
      refine ev_guard (decide_eq_true hlt) (ev_guard (by decide) ?_)
      have e1 : (c.toNat : Int).fdiv (2 ^ min (Int.toNat 4) IntKind.u8.bits) = ((c.toNat / 16 : Nat) : Int) := shr c.toNat 4
      simp only [e1]
      refine ev_guard (by rw [inB_nat]; exact decide_eq_true (by show c.toNat / 16 < 16; omega)) ?_
      unfold f9c0
      have e2 : andW .u8 (c.toNat : Int) 15 = ((c.toNat % 16 : Nat) : Int) := by
        rw [show (15 : Int) = ((15 : Nat) : Int) from rfl, andW_nat .u8 (topU8 hcl) (topU8 (by decide)), show (15 : Nat) = 2 ^ 4 - 1 from rfl, and_low]
      have h1 := hex_at ⟨c.toNat / 16, by omega⟩
      have h2 := hex_at ⟨c.toNat % 16, by omega⟩
      simp only at h1 h2
      simp only [hc, inB_nat, BA_size, e2, h1, h2]
      refine ev_guard (decide_eq_true hlt) (ev_guard (decide_eq_true (by show c.toNat % 16 < 16; omega)) ?_)
      refine ev_new hp fun b19 A8 hp => ?_
      refine ev_toStr_row 0 (bs := [hexd (c.toNat / 16), hexd (c.toNat % 16)]) hp rfl rfl ?_
      refine ev_guard (Nat.ble_eq_true_of_le (Nat.le_trans (show _ ≤ 4 from Nat.le_refl 4) (by omega))) ?_
      have e3 : st2 ++ BA [hexd (c.toNat / 16), hexd (c.toNat % 16)] = BA [92, 120, hexd (c.toNat / 16), hexd (c.toNat % 16)] := BA_append [92, 120] _
      rw [e3]
      refine (writeStringG [92, 120, hexd (c.toNat / 16), hexd (c.toNat % 16)] (hp.tail.front 1 rfl |>.front 2 rfl |>.front 1 rfl) (.inr rfl) (by simp; omega) fun A9 a9 hp => ⟨(_, _, ()), rfl, ?_⟩).mono (show 2 ≤ 3 by decide) |>.use hn
      exact hgo _ _ ⟨a9, _, hp.front 2 rfl, by rw [hw, hq, List.append_assoc], by simp; omega, by simp⟩
    · rw [decide_eq_false_iff_not] at h
      rw [if_neg h] at hq
      have hne : s.drop pos ≠ [] := by rw [e]; simp
      have hbad : bad (s.drop pos) = false := by
        have := whole_own hne
        rw [hR] at this
        cases hb : bad (s.drop pos) with
        | false => rfl
        | true => rw [hb] at this; exact absurd (.inr (.inr this)) h
      have henc := encode_rune hne hbad
      rw [hR] at henc
      have hv : Utf8.valid (r : Int) = true := by
        have := rune_valid hbad
        rwa [hR] at this
      have hel : (Utf8.encode (r : Int)).data.toList.length ≤ m := by rw [henc, List.length_take]; omega
      unfold f9c1
      simp only [M.join]
      have fr := hp.front 1 rfl |>.front 2 rfl |>.front 1 rfl
      by_cases h12 : r = 34 ∨ r = 92
      · rw [if_pos h12] at hq
        refine ev_or (by rw [show (34 : Int) = ((34 : Nat) : Int) from rfl, show (92 : Int) = ((92 : Nat) : Int) from rfl, eqB_nat, eqB_nat, Bool.or_eq_true, decide_eq_true_eq, decide_eq_true_eq]; exact h12) ?_
        refine (writeByteG 92 fr (.inr rfl) (by omega) fun A8 a8 hp => ⟨_, rfl, ?_⟩).mono (show 2 ≤ 3 by decide) |>.use hn
        refine (writeRuneG hp (.inr rfl) hv (by simp only [List.length_append, List.length_cons, List.length_nil]; omega) fun A9 a9 v hp => ⟨(_, _, ()), rfl, ?_⟩).use hn
        exact hgo _ _ ⟨a9, _, hp.front 2 rfl, hw.trans ((congrArg (bs ++ ·) hq).trans (app3 _ _ _ _)), by simp only [List.length_append, List.length_cons, List.length_nil]; omega, by simp only [List.length_append, List.length_cons, List.length_nil]; omega⟩
      · rw [if_neg h12] at hq
        refine ev_f (by rw [show (34 : Int) = ((34 : Nat) : Int) from rfl, eqB_nat, decide_eq_false_iff_not]; omega) (ev_f (by rw [show (92 : Int) = ((92 : Nat) : Int) from rfl, eqB_nat, decide_eq_false_iff_not]; omega) ?_)
        refine (writeRuneG fr (.inr rfl) hv (by omega) fun A9 a9 v hp => ⟨(_, _, ()), rfl, ?_⟩).use hn
        exact hgo _ _ ⟨a9, _, hp.front 2 rfl, by rw [hw, hq, List.append_assoc], by rw [List.length_append]; omega, by rw [List.length_append]; omega⟩
  · have hrune : ∀ A8 q, Hp (tabsOf os) A8 (.iter b2 (BA s) (pos + m) :: bldr b0 (some ⟨b0, 0, none⟩) a bs l) → q = decide (r < 32 ∨ r = 127 ∨ whole ((s.drop pos).take m) = false) → Ev (go2 (q, ())) A8 _ := fun A8 q h8 hq8 => hgo2 _ _ ⟨h8, by rw [hq8]⟩
    refine ev_ite (fun h1 => ?_) fun h1 => ?_
    · rw [show (32 : Int) = ((32 : Nat) : Int) from rfl, ltB_nat, decide_eq_true_eq] at h1
      exact hrune A6 true hp (decide_eq_true (.inl h1)).symm
    rw [show (32 : Int) = ((32 : Nat) : Int) from rfl, ltB_nat, decide_eq_false_iff_not] at h1
    refine ev_ite (fun h2 => ?_) fun h2 => ?_
    · rw [show (127 : Int) = ((127 : Nat) : Int) from rfl, eqB_nat, decide_eq_true_eq] at h2
      exact hrune A6 true hp (decide_eq_true (.inr (.inl h2))).symm
    rw [show (127 : Int) = ((127 : Nat) : Int) from rfl, eqB_nat, decide_eq_false_iff_not] at h2
    rw [addW_i64 (by omega)]
    simp only [upB_nat, BA_size, Int.toNat_natCast, BA_extract]
    refine ev_guard (decide_eq_true hle) (ev_guard (decide_eq_true (by omega)) ?_)
    rw [List.drop_take, show pos + m - pos = m by omega]
    refine (wholeG ((s.drop pos).take m) (by omega) hr).use hn hp rfl fun A7 hp => ?_
    refine hrune A7 _ hp ?_
    cases whole ((s.drop pos).take m) <;> simp [h1, h2]
end
end Go.Proofs.YtlcigkdflbfdgaaDoor.sh
