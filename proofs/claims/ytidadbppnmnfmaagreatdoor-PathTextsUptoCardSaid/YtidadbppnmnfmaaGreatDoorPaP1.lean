/-
  Walks: path.cut, slices.Index, slices.Contains, names.Valid, path.Split.
-/
import Derived.Test.YtidadbppnmnfmaaGreatDoorPaW3
namespace Go.Proofs.YtidadbppnmnfmaaGreatDoor.pa
open Go Go.Eng Go.Sh
section
variable {os : List (Nat × AObj)} {A : AW} {Q : Value → AW → Prop} {l : List Thing}
/-- Texts, as cells. -/
def strs (L : List (List UInt8)) : List Value := L.map fun x => .string (BA x)
theorem strs_append (a b : List (List UInt8)) : strs (a ++ b) = strs a ++ strs b := List.map_append
theorem strs_len (a : List (List UInt8)) : (strs a).length = a.length := List.length_map _
/-- A slice of texts that grows. -/
abbrev txts (sl : SL) (L : List (List UInt8)) (l : List Thing) : List Thing := .vec 9 1 false sl.1 sl.2.1 sl.2.2 (strs L) :: l
theorem txts_len {sl : SL} {L : List (List UInt8)} (hp : Hp (tabsOf os) A (txts sl L l)) : sl.2.1 = L.length ∧ sl.2.2 = L.length := by
  have h := hp.own 0 _ rfl
  have := h.1
  have := h.2.1
  rw [strs_len] at *
  omega
theorem txts_some {sl : SL} {L : List (List UInt8)} (hp : Hp (tabsOf os) A (txts sl L l)) (h : 0 < L.length) : ∃ b, sl.1 = some ⟨b, 0, none⟩ := by
  obtain ⟨h1, h2, h3⟩ := hp.own 0 _ rfl
  have hl := (txts_len hp).1
  cases hs : sl.1 with
  | none => rw [hs] at h3; have h3 : sl.2.1 = 0 := h3; omega
  | some a =>
    rw [hs] at h3
    obtain ⟨e, _⟩ := h3
    exact ⟨a.block, by rw [e]⟩
/-- One more text behind it. -/
theorem ev_txt {ρ : Type} {Q : ρ → AW → Prop} {sl : SL} {L : List (List UInt8)} {K : Option Addr → Nat → Nat → M ρ} (x : List UInt8) (hp : Hp (tabsOf os) A (txts sl L l)) (hb : L.length < 2 ^ 40)
    (HK : ∀ A' a n, Hp (tabsOf os) A' (txts (a, n, n) (L ++ [x]) l) → Ev (K a n n) A' Q) : Ev (M.new (.cells (Row.ofList [(.string (BA x))]) 9 false (0, 0) false) fun b => M.append 9 1 16 sl.1 sl.2.1 sl.2.2 (.slice (some (Addr.mk b 0 none)) 1 1) K) A Q := by
  obtain ⟨hsl, _⟩ := txts_len hp
  refine ev_new hp fun b A5 hp => ?_
  refine ev_append_row 1 0 hp rfl rfl rfl (Nat.le_refl _) (by decide) (by rw [hsl]; omega) rfl fun A6 a' hp => ?_
  exact HK A6 a' _ (by unfold txts; rw [strs_append]; exact hp.tail)
/-- A text of such a slice is read. -/
theorem ev_nth {ρ : Type} {Q : ρ → AW → Prop} (j : Nat) {e : Nat} {ish : Bool} {a : Option Addr} {n c : Nat} {L : List (List UInt8)} {l : List Thing} {i : Nat} {K : ByteArray → M ρ} (hp : Hp (tabsOf os) A l) (hj : l[j]? = some (.vec e 1 ish a n c (strs L))) (hi : i < L.length) (H : Ev (K (BA (L[i]'hi))) A Q) :
    Ev (M.deref a fun a => M.load (.cell .string) 1 (a.add (i * 1)) fun (x : ByteArray) => K x) A Q := by
  obtain ⟨h1, h2, h3⟩ := hp.own j _ hj
  rw [strs_len] at h1
  cases a with
  | none => have h3 : n = 0 := h3; omega
  | some a =>
    obtain ⟨ha, _⟩ := h3
    rw [ha] at hj ⊢
    show Ev (M.load _ _ _ _) A Q
    rw [Nat.mul_one, add0]
    refine ev_load j hp hj rfl rfl (by rw [strs_len]; exact hi) (x := BA (L[i]'hi)) ?_ H
    have : ((strs L).drop i).take 1 = [.string (BA (L[i]'hi))] := by
      apply List.ext_getElem?
      intro k
      rw [List.getElem?_take, List.getElem?_drop]
      cases k with
      | zero => simp [strs, List.getElem?_eq_getElem hi]
      | succ k => simp
    rw [this]
    rfl
set_option maxHeartbeats 1000000 in
theorem cutG (s : List UInt8) (hs : s.length < 2 ^ 38) (hp : Hp (tabsOf os) A l) (H : ∀ A' sl, Hp (tabsOf os) A' (txts sl (cutB s) l) → Q (.slice sl.1 sl.2.1 sl.2.2) A') : Goes (XX os) 1 16 [.string (BA s)] A Q := by
  refine t16 (d := 0) (BA s, ()) fun n hn => ?_
  simp only [f16, f16c1, f16c0]
  refine ev_iter hp fun b A1 hp => ?_
  refine ev_bind (ev_LL (fun m st A' => ∃ pos fr L, m = s.length - pos ∧ pos ≤ s.length ∧ fr ≤ pos ∧ st.2.1 = ((fr : Nat) : Int) ∧ Hp (tabsOf os) A' (txts st.1 L (.iter b (BA s) pos :: l)) ∧ cutB s = L ++ consH ((s.take pos).drop fr) (cutB (s.drop pos)) ∧ L.length ≤ pos) (m := s.length)
    ⟨0, 0, [], rfl, by omega, by omega, rfl, hp.vec0 _ 1 false, by rw [List.drop_zero, List.take_zero, List.drop_zero, consH_nil (cutB_ne s)]; rfl, by simp⟩ (by omega) ?_)
  rintro m ⟨sl, fr0, u⟩ A2 ⟨pos, fr, L, rfl, hpos, hfr, e, hp, hw, hLl⟩
  simp only at e hp
  subst e
  refine ev_next 1 hp rfl (fun hge => ?_) fun hlt A3 hp => ?_
  · rw [BA_size] at hge
    refine ev_pure ?_
    simp only [Round, M.sum, upB_nat, BA_size, Int.toNat_natCast, BA_till]
    refine ev_guard (decide_eq_true (by omega)) ?_
    refine ev_txt (s.drop fr) hp (by omega) fun A4 a n hp => ev_pure ?_
    rw [List.drop_of_length_le hge, List.take_of_length_le hge] at hw
    have : cutB s = L ++ [s.drop fr] := by rw [hw]; simp [cutB, consH]
    rw [← this] at hp
    exact H A4 (a, n, n) (by have := hp.erase 1; exact this)
  · rw [BA_size] at hlt
    rw [decode_BA] at hp ⊢
    have hle := rune_len_drop hlt
    obtain ⟨c, t, e⟩ := drop_cons hlt
    have hpos2 := rune_pos (s.drop pos)
    refine ev_join (fun j A' => ∃ fr' L', fr' ≤ pos + (rune (s.drop pos)).2 ∧ j.2.1 = ((fr' : Nat) : Int) ∧ Hp (tabsOf os) A' (txts j.1 L' (.iter b (BA s) (pos + (rune (s.drop pos)).2) :: l)) ∧ cutB s = L' ++ consH ((s.take (pos + (rune (s.drop pos)).2)).drop fr') (cutB (s.drop (pos + (rune (s.drop pos)).2))) ∧ L'.length ≤ pos + (rune (s.drop pos)).2) ?_ fun go hgo => ?_
    · rintro ⟨sl', fr2, _⟩ A4 ⟨fr', L', g1, rfl, g3, g4, g5⟩
      exact ev_pure ⟨_, by omega, _, fr', L', rfl, hle, g1, rfl, g3, g4, g5⟩
    have hsplit : s.drop pos = (s.drop pos).take (rune (s.drop pos)).2 ++ s.drop (pos + (rune (s.drop pos)).2) := by
      rw [← List.drop_drop, List.take_append_drop]
    have htk : (s.take (pos + (rune (s.drop pos)).2)).drop fr = (s.take pos).drop fr ++ (s.drop pos).take (rune (s.drop pos)).2 := by
      rw [List.take_add, List.drop_append_of_le_length (by rw [List.length_take]; omega)]
    refine ev_ite (fun h => ?_) fun h => ?_
    · rw [show (47 : Int) = ((47 : Nat) : Int) from rfl, eqB_nat, decide_eq_true_eq, e] at h
      obtain ⟨rfl, hn1⟩ := rune_is_slash h
      rw [← e] at hn1
      refine ev_guard (by rw [upB_nat, BA_size]; exact decide_eq_true (by omega)) (ev_guard (by rw [Int.toNat_natCast, upB_nat]; exact decide_eq_true hfr) ?_)
      rw [Int.toNat_natCast, Int.toNat_natCast, BA_extract]
      refine ev_txt ((s.take pos).drop fr) hp (by omega) fun A4 a n hp => ?_
      rw [addW_1 (by omega)]
      refine hgo ((a, n, n), _, ()) A4 ⟨pos + 1, L ++ [(s.take pos).drop fr], by rw [hn1]; exact Nat.le_refl _, rfl, hp, ?_, by simp only [List.length_append, List.length_cons, List.length_nil]; omega⟩
      have e2 : s.drop (pos + 1) = t := by rw [← List.drop_drop, e]; rfl
      have e3 : (s.take (pos + 1)).drop (pos + 1) = [] := List.drop_of_length_le (by rw [List.length_take]; omega)
      rw [hn1, e2, e3, consH_nil (cutB_ne t), hw, e, cutB_slash]
      simp [consH]
    · rw [show (47 : Int) = ((47 : Nat) : Int) from rfl, eqB_nat, decide_eq_false_iff_not] at h
      refine hgo _ A3 ⟨fr, L, by omega, rfl, hp, ?_, by omega⟩
      rw [hw, htk]
      conv => lhs; rw [hsplit]
      rw [cutB_plain _ _ (rune_slash h), consH_consH _ _ (cutB_ne _)]
/-- Where a text first stands among others. -/
def IxIs (L : List (List UInt8)) (v : List UInt8) (k : Int) : Prop := (∃ (i : Nat) (h : i < L.length), k = (i : Int) ∧ L[i] = v) ∨ (k = -1 ∧ v ∉ L)
theorem indexOfG (j : Nat) {e : Nat} {ish : Bool} {a : Option Addr} {n c : Nat} {L : List (List UInt8)} (v : List UInt8) (hp : Hp (tabsOf os) A l) (hj : l[j]? = some (.vec e 1 ish a n c (strs L))) (hL : L.length < 2 ^ 38)
    (H : ∀ A' k, IxIs L v k → Hp (tabsOf os) A' l → Q (.int .i64 k) A') : Goes (XX os) 1 27 [.slice a n c, .string (BA v)] A Q := by
  have hn : n = L.length := by
    have := (hp.own j _ hj).1
    rw [strs_len] at this
    omega
  subst hn
  refine t27 (d := 0) ((a, L.length, c), BA v, ()) fun n hn => ?_
  simp only [f27, f27c0]
  refine ev_bind (ev_LL (fun m st A' => ∃ i, m = L.length - i ∧ i ≤ L.length ∧ st = (((i : Nat) : Int), ()) ∧ Hp (tabsOf os) A' l ∧ v ∉ L.take i) (m := L.length) ⟨0, rfl, by omega, rfl, hp, by simp⟩ (by omega) ?_)
  rintro m st A2 ⟨i, rfl, hi, rfl, hp, hno⟩
  simp only [ltB_nat, inB_nat, Int.toNat_natCast]
  refine ev_ite (fun h => ?_) fun h => ?_
  · rw [decide_eq_true_eq] at h
    refine ev_guard (decide_eq_true h) ?_
    refine ev_nth j (i := i) hp hj h ?_
    rw [BA_seq]
    by_cases hv : v = L[i]
    · exact ev_t (decide_eq_true hv) (ev_pure (ev_pure (H A2 _ (.inl ⟨i, h, rfl, hv.symm⟩) hp)))
    · refine ev_f (decide_eq_false hv) (ev_pure ⟨L.length - (i + 1), by omega, i + 1, rfl, by omega, by rw [addW_1 (by omega)], hp, ?_⟩)
      rw [List.take_add_one, List.getElem?_eq_getElem h]
      simp only [Option.toList_some, List.mem_append, List.mem_singleton, not_or]
      exact ⟨hno, hv⟩
  · rw [decide_eq_false_iff_not] at h
    rw [List.take_of_length_le (by omega)] at hno
    exact ev_pure (ev_pure (H A2 (-1) (.inr ⟨rfl, hno⟩) hp))
theorem containsG (j : Nat) {e : Nat} {ish : Bool} {a : Option Addr} {n c : Nat} {L : List (List UInt8)} (v : List UInt8) (hp : Hp (tabsOf os) A l) (hj : l[j]? = some (.vec e 1 ish a n c (strs L))) (hL : L.length < 2 ^ 38)
    (H : ∀ A', Hp (tabsOf os) A' l → Q (.bool (decide (v ∈ L))) A') : Goes (XX os) 2 17 [.slice a n c, .string (BA v)] A Q := by
  refine t17 (d := 1) ((a, n, c), BA v, ()) fun n hn => ?_
  simp only [f17]
  refine (indexOfG j v hp hj hL fun A' k hk h' => ⟨k, rfl, ev_pure ?_⟩).use hn
  have := H A' h'
  rcases hk with ⟨i, hi, rfl, hv⟩ | ⟨rfl, hv⟩
  · rw [decide_eq_true (show v ∈ L from hv ▸ List.getElem_mem hi)] at this
    rw [show leB 0 ((i : Nat) : Int) = true by rw [show (0 : Int) = ((0 : Nat) : Int) from rfl, leB_nat]; exact decide_eq_true (by omega)]
    exact this
  · rw [decide_eq_false hv] at this
    exact this
theorem validGG (s : List UInt8) (hs : s.length < 2 ^ 38) (hr : Runes os) : Gives (tabsOf os) (XX os) 4 14 [.string (BA s)] (.bool (validG s)) := by
  intro A l Q hp H
  refine t14 (d := 3) (BA s, ()) fun n hn => ?_
  simp only [f14, f14c0]
  obtain ⟨B, hB⟩ : ∃ B, B = (decide (s.length < 1) || (decide (24 < s.length) || (!whole s || (decide (s = [46]) || decide (s = [46, 46]))))) := ⟨_, rfl⟩
  have hv : validG s = (!B && runesOk s) := by rw [hB]; rfl
  rw [hv] at H
  refine ev_join (fun j A' => Hp (tabsOf os) A' l ∧ j = (B, ())) ?_ fun go hgo => ?_
  · rintro _ A1 ⟨hp, rfl⟩
    refine ev_ite (fun h => ?_) fun h => ?_
    · simp only at h
      rw [h] at H
      exact ev_pure (H A1 hp)
    · simp only at h
      rw [h] at H
      simp only [Bool.not_false, Bool.true_and] at H
      refine ev_iter hp fun b A2 hp => ?_
      refine ev_bind (ev_LL (fun m _ A' => ∃ pos, m = s.length - pos ∧ pos ≤ s.length ∧ Hp (tabsOf os) A' (.iter b (BA s) pos :: l) ∧ runesOk s = runesOk (s.drop pos)) (m := s.length) ⟨0, rfl, by omega, hp, rfl⟩ (by omega) ?_)
      rintro m _ A3 ⟨pos, rfl, hpos, hp, hw⟩
      refine ev_next 0 hp rfl (fun hge => ?_) fun hlt A4 hp => ?_
      · refine ev_pure (ev_pure ?_)
        rw [BA_size] at hge
        rw [List.drop_of_length_le hge, runesOk] at hw
        rw [hw] at H
        exact H A3 hp.tail
      rw [BA_size] at hlt
      rw [decode_BA] at hp ⊢
      have hle := rune_len_drop hlt
      obtain ⟨c, t, e⟩ := drop_cons hlt
      have hpos2 := rune_pos (s.drop pos)
      rw [e, runesOk, ← e] at hw
      simp only [M.join]
      have bad : (rune (s.drop pos)).1 = 47 ∨ (rune (s.drop pos)).1 < 32 ∨ (rune (s.drop pos)).1 = 127 → Q (.bool false) A4 := fun hc => by
        rw [if_pos hc] at hw
        rw [hw] at H
        exact H A4 hp.tail
      rw [eqB_lit, ltB_lit, eqB_lit]
      refine ev_ite (fun h1 => ?_) fun h1 => ?_
      · rw [decide_eq_true_eq] at h1
        exact ev_t rfl (ev_pure (ev_pure (bad (.inl h1))))
      rw [decide_eq_false_iff_not] at h1
      refine ev_ite (fun h2 => ?_) fun h2 => ?_
      · rw [decide_eq_true_eq] at h2
        exact ev_t rfl (ev_pure (ev_pure (bad (.inr (.inl h2)))))
      rw [decide_eq_false_iff_not] at h2
      refine ev_ite (fun h3 => ?_) fun h3 => ?_
      · rw [decide_eq_true_eq] at h3
        exact ev_pure (ev_pure (bad (.inr (.inr h3))))
      · rw [decide_eq_false_iff_not] at h3
        rw [if_neg (fun hc => by rcases hc with hc | hc | hc <;> contradiction), List.drop_drop] at hw
        exact ev_pure ⟨_, by omega, _, rfl, hle, hp, hw⟩
  · simp only [BA_size]
    rw [ltB_lit, ltB_lit']
    refine ev_ite (fun h1 => ?_) fun h1 => ?_
    · exact hgo _ A ⟨hp, by rw [hB, show decide (s.length < 1) = true from h1]; rfl⟩
    refine ev_ite (fun h2 => ?_) fun h2 => ?_
    · exact hgo _ A ⟨hp, by rw [hB, show decide (s.length < 1) = false from h1, show decide (24 < s.length) = true from h2]; rfl⟩
    refine (wholeG s hs hr).use hn hp rfl fun A1 hp => ?_
    refine ev_ite (fun h3 => ?_) fun h3 => ?_
    · exact hgo _ A1 ⟨hp, by rw [hB, show decide (s.length < 1) = false from h1, show decide (24 < s.length) = false from h2, h3]; rfl⟩
    rw [show st13 = BA [46] from rfl, show st14 = BA [46, 46] from rfl, BA_seq, BA_seq]
    refine ev_ite (fun h4 => ?_) fun h4 => ?_
    · exact hgo _ A1 ⟨hp, by rw [hB, show decide (s.length < 1) = false from h1, show decide (24 < s.length) = false from h2, h3, h4]; rfl⟩
    · exact hgo _ A1 ⟨hp, by rw [hB, show decide (s.length < 1) = false from h1, show decide (24 < s.length) = false from h2, h3, h4]; rfl⟩
end
end Go.Proofs.YtidadbppnmnfmaaGreatDoor.pa
