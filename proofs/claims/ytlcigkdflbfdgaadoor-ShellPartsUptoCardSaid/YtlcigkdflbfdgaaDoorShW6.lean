/-
  Walks: the document's Quote and Unquote.
-/
import Derived.Test.YtlcigkdflbfdgaaDoorShW5
namespace Go.Proofs.YtlcigkdflbfdgaaDoor.sh
open Go Go.Eng Go.Sh
section
variable {os : List (Nat × AObj)} {A : AW} {Q : Value → AW → Prop} {l : List Thing}
/-- A slice of bytes that grows. -/
abbrev bts (sl : SL) (bs : List UInt8) (l : List Thing) : List Thing := .vec 5 1 false sl.1 sl.2.1 sl.2.2 (u8s bs) :: l
theorem bts_len {sl : SL} {bs : List UInt8} (hp : Hp (tabsOf os) A (bts sl bs l)) : sl.2.1 = bs.length := by
  have := (hp.own 0 _ rfl).1
  rw [u8s_length] at this
  omega
/-- A few bytes, laid anew, behind it. -/
theorem ev_bytes {ρ : Type} {Q : ρ → AW → Prop} {sl : SL} {bs : List UInt8} {K : Option Addr → Nat → Nat → M ρ} (cs : List UInt8) {vs : List Value} {m : Nat} (hp : Hp (tabsOf os) A (bts sl bs l)) (hv : vs = u8s cs) (hm : m = cs.length) (hb : bs.length + cs.length < 2 ^ 40)
    (HK : ∀ A' a n, Hp (tabsOf os) A' (bts (a, n, n) (bs ++ cs) l) → Ev (K a n n) A' Q) : Ev (M.new (.cells (Row.ofList vs) 5 false (0, 0) false) fun b => M.append 5 1 1 sl.1 sl.2.1 sl.2.2 (.slice (some (Addr.mk b 0 none)) m m) K) A Q := by
  subst hv
  subst hm
  have hsl := bts_len hp
  refine ev_new hp fun b A5 hp => ?_
  refine ev_append_row 1 0 hp rfl rfl (by rw [u8s_length, Nat.mul_one]) (Nat.le_refl _) (Nat.le_refl _) (by rw [hsl]; omega) (u8s_one _) fun A6 a' hp => ?_
  exact HK A6 a' _ (by unfold bts; rw [u8s_append]; exact hp.tail)
theorem ev_bytes_str {ρ : Type} {Q : ρ → AW → Prop} {sl : SL} {bs : List UInt8} {K : Option Addr → Nat → Nat → M ρ} (cs : List UInt8) (hp : Hp (tabsOf os) A (bts sl bs l)) (hb : bs.length + cs.length < 2 ^ 40)
    (HK : ∀ A' a n, Hp (tabsOf os) A' (bts (a, n, n) (bs ++ cs) l) → Ev (K a n n) A' Q) : Ev (M.append 5 1 1 sl.1 sl.2.1 sl.2.2 (.string (BA cs)) K) A Q := by
  have hsl := bts_len hp
  refine ev_append_str 0 hp rfl (by rw [BA_size, hsl]; omega) fun A6 a' hp => ?_
  exact HK A6 a' _ (by unfold bts; rw [u8s_append]; exact hp)
theorem refQuoteG (s : List UInt8) (hs : s.length < 2 ^ 37) : Gives (tabsOf os) (XX os) 2 10 [.string (BA s)] (.string (BA (word s))) := by
  intro A l Q hp H
  refine t10 (d := 1) (BA s, ()) fun n hn => ?_
  unfold f10
  refine ev_bytes (sl := (none, 0, 0)) (bs := []) [34] (hp.vec0 5 1 false) rfl rfl (by decide) fun A1 a1 n1 hp => ?_
  unfold f10c3
  refine ev_bind (ev_LL (fun m st A' => ∃ pos bs, m = s.length - pos ∧ pos ≤ s.length ∧ st.2.1 = ((pos : Nat) : Int) ∧ Hp (tabsOf os) A' (bts st.1 bs l) ∧ 34 :: inside s = bs ++ inside (s.drop pos) ∧ bs.length ≤ 1 + 4 * pos) (m := s.length)
    ⟨0, [34], rfl, by omega, rfl, hp, rfl, by simp⟩ (by omega) ?_)
  rintro m ⟨sl, at', u⟩ A4 ⟨pos, bs, rfl, hpos, e, hp, hw, hlb⟩
  simp only at e hp
  subst e
  simp only [ltB_nat, BA_size, upB_nat, Int.toNat_natCast, BA_till]
  refine ev_ite (fun hlt => ?_) fun hge => ?_
  · rw [decide_eq_true_eq] at hlt
    have hle := rune_len_drop hlt
    obtain ⟨c, t, e⟩ := drop_cons hlt
    have hpos2 := rune_pos (s.drop pos)
    refine ev_guard (decide_eq_true (by omega)) ?_
    refine (refRuneG (s := s.drop pos) (by rw [e]; simp)).use hn hp rfl fun A6 hp => ?_
    have hq := inside_step c t
    rw [← e, List.drop_drop] at hq
    have ho : odd (s.drop pos) = (Sh.bad (s.drop pos) || decide ((rune (s.drop pos)).1 < 32) || decide ((rune (s.drop pos)).1 = 127)) := rfl
    rw [ho] at hq
    have hc : byteAt (BA s) (pos : Int) = (c.toNat : Int) := by
      rw [at_byteAt]
      have : Sh.at' s pos = Sh.at' (s.drop pos) 0 := by unfold Sh.at'; rw [List.getElem?_drop, Nat.add_zero]
      rw [this, e]; rfl
    have hcl : c.toNat < 256 := c.toNat_lt
    unfold f10c2
    have ht2 : ((s.drop pos).take (rune (s.drop pos)).2).length ≤ (rune (s.drop pos)).2 := by rw [List.length_take]; omega
    refine ev_join (fun j A' => ∃ bs', Hp (tabsOf os) A' (bts j.1 bs' l) ∧ 34 :: inside s = bs' ++ inside (s.drop (pos + (rune (s.drop pos)).2)) ∧ bs'.length ≤ 1 + 4 * (pos + (rune (s.drop pos)).2)) ?_ fun go hgo => ?_
    · rintro ⟨sl', _⟩ A7 ⟨bs', g1, g2, g3⟩
      simp only at g1
      simp only
      rw [addW_i64 (by omega)]
      exact ev_pure ⟨_, by omega, _, bs', rfl, hle, rfl, g1, g2, g3⟩
    generalize Sh.bad (s.drop pos) = bd at *
    generalize rune (s.drop pos) = R at *
    obtain ⟨r, m⟩ := R
    simp only at *
    refine ev_join (fun j A' => Hp (tabsOf os) A' (bts sl bs l) ∧ j = (bd || decide (r < 32) || decide (r = 127), ())) ?_ fun go2 hgo2 => ?_
    · rintro _ A7 ⟨hp, rfl⟩
      simp only
      refine ev_ite (fun h => ?_) fun h => ?_
      · rw [if_pos h] at hq
        simp only [inB_nat, BA_size, hc]
        refine ev_guard (decide_eq_true hlt) ?_
        unfold f10c0
        have e1 : IntKind.u8.wrap ((c.toNat : Int).tdiv 16) = ((c.toNat / 16 : Nat) : Int) := by
          rw [show ((c.toNat : Int).tdiv 16) = ((c.toNat / 16 : Nat) : Int) from rfl]
          exact wrap_nat (topU8 (by omega))
        have e2 : ((c.toNat : Int)).tmod 16 = ((c.toNat % 16 : Nat) : Int) := rfl
        have h1 := hex_at ⟨c.toNat / 16, by omega⟩
        have h2 := hex_at ⟨c.toNat % 16, by omega⟩
        simp only at h1 h2
        simp only [e1, inB_nat, BA_size, hc, e2, h1, h2]
        refine ev_guard (by decide) (ev_guard (decide_eq_true (by show c.toNat / 16 < 16; omega)) (ev_guard (decide_eq_true hlt) (ev_guard (by decide) (ev_guard (decide_eq_true (by show c.toNat % 16 < 16; omega)) ?_))))
        exact ev_bytes [92, 120, hexd (c.toNat / 16), hexd (c.toNat % 16)] hp rfl rfl (by simp only [List.length_cons, List.length_nil]; omega) fun A8 a8 n8 hp => hgo _ A8 ⟨_, hp, by rw [hw, hq, List.append_assoc], by simp only [List.length_append, List.length_cons, List.length_nil]; omega⟩
      · rw [if_neg (by rw [h]; simp)] at hq
        unfold f10c1
        simp only [M.join]
        by_cases h12 : r = 34 ∨ r = 92
        · rw [if_pos h12] at hq
          refine ev_or (by rw [eqB_lit, eqB_lit, Bool.or_eq_true, decide_eq_true_eq, decide_eq_true_eq]; exact h12) ?_
          simp only [inB_nat, BA_size, hc]
          refine ev_guard (decide_eq_true hlt) ?_
          exact ev_bytes [92, c] hp rfl rfl (by simp only [List.length_cons, List.length_nil]; omega) fun A8 a8 n8 hp => hgo _ A8 ⟨_, hp, by rw [hw, hq, List.append_assoc], by simp only [List.length_append, List.length_cons, List.length_nil]; omega⟩
        · rw [if_neg h12] at hq
          refine ev_nor (by rw [eqB_lit, eqB_lit, Bool.or_eq_false_iff, decide_eq_false_iff_not, decide_eq_false_iff_not]; exact not_or.1 h12) ?_
          rw [addW_i64 (by omega)]
          simp only [upB_nat, BA_size, Int.toNat_natCast, BA_extract]
          refine ev_guard (decide_eq_true hle) (ev_guard (decide_eq_true (by omega)) ?_)
          rw [List.drop_take, show pos + m - pos = m by omega]
          exact ev_bytes_str _ hp (by omega) fun A8 a8 n8 hp => hgo _ A8 ⟨_, hp, by rw [hw, hq, List.append_assoc], by rw [List.length_append]; omega⟩
    · have fin : ∀ q, q = (bd || decide (r < 32) || decide (r = 127)) → Ev (go2 (q, ())) A6 _ := fun q hq8 => hgo2 _ _ ⟨hp, by rw [hq8]⟩
      refine ev_ite (fun h1 => ?_) fun h1 => ?_
      · exact fin true (by rw [h1]; rfl)
      rw [ltB_lit]
      refine ev_ite (fun h2 => ?_) fun h2 => ?_
      · exact fin true (by rw [show decide (r < 32) = true from h2]; simp)
      · rw [eqB_lit]
        exact fin _ (by rw [h1, show decide (r < 32) = false from h2]; rfl)
  · rw [decide_eq_false_iff_not] at hge
    refine ev_pure ?_
    simp only [Round, M.sum]
    rw [List.drop_of_length_le (by omega), inside_nil, List.append_nil] at hw
    refine ev_bytes [34] hp rfl rfl (by simp only [List.length_cons, List.length_nil]; omega) fun A8 a8 n8 hp => ?_
    refine ev_toStr 0 hp rfl (ev_pure ?_)
    have e : bs ++ [34] = word s := by rw [← hw]; rfl
    rw [BA_prj, e]
    exact H A8 hp.tail
end
end Go.Proofs.YtlcigkdflbfdgaaDoor.sh
