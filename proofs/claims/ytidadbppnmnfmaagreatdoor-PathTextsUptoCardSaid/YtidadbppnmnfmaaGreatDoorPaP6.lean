/-
  Walks: the document's Whole, Valid, Split.
-/
import Derived.Test.YtidadbppnmnfmaaGreatDoorPaP4
import Derived.Test.YtidadbppnmnfmaaGreatDoorPaW5
import Derived.Test.YtidadbppnmnfmaaGreatDoorPlain
namespace Go.Proofs.YtidadbppnmnfmaaGreatDoor.pa
open Go Go.Eng Go.Sh
section
variable {os : List (Nat × AObj)} {A : AW} {Q : Value → AW → Prop} {l : List Thing}
theorem refWholeG (s : List UInt8) (hs : s.length < 2 ^ 38) : Gives (tabsOf os) (XX os) 2 28 [.string (BA s)] (.bool (whole s)) := by
  intro A l Q hp H
  refine t28 (d := 1) (BA s, ()) fun n hn => ?_
  simp only [f28, f28c0]
  refine ev_bind (ev_LL (fun μ st A' => ∃ pos, μ = s.length - pos ∧ pos ≤ s.length ∧ st = (((pos : Nat) : Int), ()) ∧ Hp (tabsOf os) A' l ∧ whole s = whole (s.drop pos)) (m := s.length) ⟨0, rfl, by omega, rfl, hp, rfl⟩ (by omega) ?_)
  rintro μ st A1 ⟨pos, rfl, hpos, rfl, hp, hw⟩
  simp only [ltB_nat, upB_nat, BA_size, Int.toNat_natCast]
  refine ev_ite (fun h => ?_) fun h => ?_
  · rw [decide_eq_true_eq] at h
    refine ev_guard (decide_eq_true hpos) ?_
    rw [BA_till]
    have hne : s.drop pos ≠ [] := by
      obtain ⟨c, t, e⟩ := drop_cons h
      rw [e]; simp
    refine (refRuneG hne).use hn hp rfl fun A2 hp => ?_
    have hp2 := rune_pos (s.drop pos)
    have hle := rune_len_drop h
    rw [whole_cons hne, List.drop_drop] at hw
    refine ev_ite (fun hb => ?_) fun hb => ?_
    · have hb : bad (s.drop pos) = true := hb
      rw [hb, Bool.not_true, Bool.false_and] at hw
      rw [hw] at H
      exact ev_pure (ev_pure (H A2 hp))
    · have hb : bad (s.drop pos) = false := hb
      rw [hb, Bool.not_false, Bool.true_and] at hw
      exact ev_pure ⟨s.length - (pos + (rune (s.drop pos)).2), by omega, pos + (rune (s.drop pos)).2, rfl, hle, by show (addW .i64 ((pos : Nat) : Int) (((rune (s.drop pos)).2 : Nat) : Int), ()) = _; rw [addW_i64 (by omega)], hp, hw⟩
  · rw [decide_eq_false_iff_not] at h
    rw [List.drop_of_length_le (by omega), whole_nil] at hw
    rw [hw] at H
    exact ev_pure (ev_pure (H A1 hp))
theorem byteN (s : List UInt8) {i : Nat} (h : i < s.length) : byteAt (BA s) (i : Int) = ((s[i].toNat : Nat) : Int) := by
  rw [BA_byteAt, Int.toNat_natCast, List.getElem?_eq_getElem h]
  rfl
theorem refValidG (s : List UInt8) (hs : s.length < 2 ^ 38) : Gives (tabsOf os) (XX os) 3 18 [.string (BA s)] (.bool (validG s)) := by
  intro A l Q hp H
  obtain ⟨B, hB⟩ : ∃ B, B = (decide (s.length = 0) || (decide (24 < s.length) || (!whole s || (decide (s = [46]) || decide (s = [46, 46]))))) := ⟨_, rfl⟩
  have hv : validG s = (!B && s.all okByte) := by rw [hB]; exact validG_bytes s
  rw [hv] at H
  refine t18 (d := 2) (BA s, ()) fun n hn => ?_
  simp only [f18, f18c0]
  refine ev_join (fun j A' => Hp (tabsOf os) A' l ∧ j = (B, ())) ?_ fun go hgo => ?_
  rotate_left
  · simp only [BA_size]
    rw [eqB_lit, ltB_lit']
    refine ev_ite (fun h1 => hgo _ A ⟨hp, by rw [hB, h1]; rfl⟩) fun h1 => ?_
    refine ev_ite (fun h2 => hgo _ A ⟨hp, by rw [hB, h1, h2]; rfl⟩) fun h2 => ?_
    refine (refWholeG s hs).use hn hp rfl fun A1 hp => ?_
    refine ev_ite (fun h3 => hgo _ A1 ⟨hp, by rw [hB, h1, h2, show (!whole s) = true from h3]; rfl⟩) fun h3 => ?_
    rw [show st13 = BA [46] from rfl, show st14 = BA [46, 46] from rfl, BA_seq, BA_seq]
    refine ev_ite (fun h4 => hgo _ A1 ⟨hp, by rw [hB, h1, h2, show (!whole s) = false from h3, h4]; rfl⟩) fun h4 => ?_
    exact hgo _ A1 ⟨hp, by rw [hB, h1, h2, show (!whole s) = false from h3, h4]; rfl⟩
  rintro _ A1 ⟨hp, rfl⟩
  refine ev_ite (fun h => ?_) fun h => ?_
  · simp only at h
    rw [h] at H
    exact ev_pure (H A1 hp)
  simp only at h
  rw [h] at H
  simp only [Bool.not_false, Bool.true_and] at H
  refine ev_bind (ev_LL (fun μ st A' => ∃ i, μ = s.length - i ∧ i ≤ s.length ∧ st = (((i : Nat) : Int), ()) ∧ Hp (tabsOf os) A' l ∧ (s.take i).all okByte = true) (m := s.length) ⟨0, rfl, by omega, rfl, hp, by simp⟩ (by omega) ?_)
  rintro μ st A2 ⟨i, rfl, hi, rfl, hp, hall⟩
  simp only [ltB_nat, inB_nat, BA_size]
  refine ev_ite (fun h => ?_) fun h => ?_
  · rw [decide_eq_true_eq] at h
    have hok : okByte s[i] = !(decide (s[i].toNat = 47) || (decide (s[i].toNat < 32) || decide (s[i].toNat = 127))) := rfl
    refine ev_join (fun j A' => Hp (tabsOf os) A' l ∧ j = (!okByte s[i], ())) ?_ fun go hgo => ?_
    rotate_left
    · rw [byteN s h, eqB_lit, ltB_lit, eqB_lit]
      refine ev_guard (decide_eq_true h) (ev_ite (fun h1 => hgo _ A2 ⟨hp, by rw [hok, h1]; rfl⟩) fun h1 => ?_)
      refine ev_guard (decide_eq_true h) (ev_ite (fun h2 => hgo _ A2 ⟨hp, by rw [hok, h1, h2]; rfl⟩) fun h2 => ?_)
      refine ev_guard (decide_eq_true h) (hgo _ A2 ⟨hp, by rw [hok, h1, h2]; simp⟩)
    rintro _ A3 ⟨hp, rfl⟩
    refine ev_ite (fun h1 => ?_) fun h1 => ?_
    · have h1 : okByte s[i] = false := by simpa using h1
      have : s.all okByte = false := by
        rw [List.all_eq_false]
        exact ⟨s[i], List.getElem_mem h, by rw [h1]; simp⟩
      rw [this] at H
      exact ev_pure (ev_pure (H A3 hp))
    · have h1 : okByte s[i] = true := by simpa using h1
      refine ev_pure ⟨s.length - (i + 1), by omega, i + 1, rfl, by omega, by rw [addW_1 (by omega)], hp, ?_⟩
      rw [List.take_add_one, List.all_append, hall, List.getElem?_eq_getElem h]
      simp [h1]
  · rw [decide_eq_false_iff_not] at h
    rw [List.take_of_length_le (by omega)] at hall
    rw [hall] at H
    exact ev_pure (ev_pure (H A2 hp))
theorem take_one (c : UInt8) (t : List UInt8) : ((c :: t).take 1 = [47]) ↔ c.toNat = 47 := by
  constructor
  · intro h
    have : c = 47 := by simpa using h
    rw [this]; rfl
  · intro h
    have : c = 47 := UInt8.toNat_inj.1 (by rw [h]; rfl)
    rw [this]; rfl
set_option maxHeartbeats 1000000 in
theorem refSplitG (p : List UInt8) (hpl : p.length < 2 ^ 38) (hp : Hp (tabsOf os) A l) (H : ∀ A' sl, Hp (tabsOf os) A' (txts sl (splitV validG p).1 l) → Q (.tuple ⟨[.slice sl.1 sl.2.1 sl.2.2, .int .i64 ((splitV validG p).2 : Int)]⟩) A') : Goes (XX os) 5 7 [.string (BA p)] A Q := by
  refine t7 (d := 4) (BA p, ()) fun n hn => ?_
  simp only [f7, f7c3, f7c2, f7c1, f7c0]
  have none_ : ∀ A' m, Hp (tabsOf os) A' l → splitV validG p = ([], m) → Q (.tuple ⟨[.slice none 0 0, .int .i64 (m : Int)]⟩) A' := fun A' m h' e => by
    rw [e] at H
    exact H A' (none, 0, 0) (h'.vec0 _ 1 false)
  refine ev_join (fun j A' => Hp (tabsOf os) A' l ∧ j = (decide (256 < p.length ∨ p.take 1 ≠ [47]), ())) ?_ fun go hgo => ?_
  rotate_left
  · simp only [BA_size]
    rw [eqB_lit, ltB_lit']
    refine ev_ite (fun h1 => ?_) fun h1 => ?_
    · rw [decide_eq_true_eq] at h1
      obtain rfl : p = [] := List.eq_nil_of_length_eq_zero h1
      exact hgo _ A ⟨hp, rfl⟩
    rw [decide_eq_false_iff_not] at h1
    refine ev_ite (fun h2 => ?_) fun h2 => ?_
    · rw [decide_eq_true_eq] at h2
      exact hgo _ A ⟨hp, by rw [decide_eq_true (.inl h2)]⟩
    rw [decide_eq_false_iff_not] at h2
    refine ev_guard (by rw [inB_0]; exact decide_eq_true (by omega)) (hgo _ A ⟨hp, ?_⟩)
    rw [at_byteAt0, eqB_lit]
    cases p with
    | nil => exact absurd rfl h1
    | cons c t =>
      have : (256 < (c :: t).length ∨ (c :: t).take 1 ≠ [47]) ↔ ¬ c.toNat = 47 := by
        rw [Ne, take_one]
        exact ⟨fun h => h.elim (fun h => absurd h h2) id, .inr⟩
      rw [decide_eq_decide.2 this, decide_not]
      rfl
  rintro _ A1 ⟨hp, rfl⟩
  refine ev_ite (fun h => ?_) fun h => ?_
  · simp only at h
    rw [decide_eq_true_eq] at h
    exact ev_pure (none_ A1 30 hp (by unfold splitV; rw [if_pos h]))
  simp only at h
  rw [decide_eq_false_iff_not] at h
  have hs : p.length ≤ 256 := Nat.le_of_not_lt fun e => h (.inl e)
  have h3 : p.take 1 = [47] := Classical.not_not.1 fun e => h (.inr e)
  obtain ⟨s, rfl⟩ : ∃ s, p = 47 :: s := by
    cases p with
    | nil => simp at h3
    | cons c s => simp at h3; exact ⟨s, by rw [h3]⟩
  have hsv0 : splitV validG (47 :: s) = if (47 :: s : List UInt8) = [47] then ([], 0) else if [] ∈ cutB s then ([], 30) else if (cutB s).all validG then (cutB s, 0) else ([], 31) := by
    conv => lhs; unfold splitV
    rw [if_neg h]
    rfl
  simp only [BA_size]
  rw [eqB_lit]
  by_cases hs0 : s = []
  · subst hs0
    refine ev_t rfl (ev_pure (none_ A1 0 hp (by rw [hsv0]; rfl)))
  have hsl : 0 < s.length := List.length_pos_iff.2 hs0
  have hlen : (47 :: s : List UInt8).length = s.length + 1 := rfl
  rw [if_neg (by simpa using hs0)] at hsv0
  refine ev_f (decide_eq_false (by omega)) ?_
  have esub : subW .i64 (((47 :: s : List UInt8).length : Nat) : Int) 1 = ((s.length : Nat) : Int) := by
    have := subW_i64 (a := (47 :: s : List UInt8).length) (b := 1) (by omega) (by omega)
    rw [hlen] at this ⊢
    simpa using this
  rw [esub]
  refine ev_guard (by rw [inB_nat]; exact decide_eq_true (by omega)) ?_
  rw [byteN (47 :: s) (i := s.length) (by omega), eqB_lit]
  refine ev_ite (fun h1 => ?_) fun _ => ?_
  · rw [decide_eq_true_eq] at h1
    have : [] ∈ cutB s := by
      have e1 := List.dropLast_concat_getLast hs0
      have e2 : s.getLast hs0 = 47 := by
        apply UInt8.toNat_inj.1
        rw [List.getLast_eq_getElem]
        have : (47 :: s : List UInt8)[s.length] = s[s.length - 1] := by
          obtain ⟨k, hk⟩ : ∃ k, s.length = k + 1 := ⟨s.length - 1, by omega⟩
          simp only [hk, List.getElem_cons_succ, Nat.add_sub_cancel]
        rw [← this]
        exact h1
      rw [← e1, e2]
      exact cut_last _
    exact ev_pure (none_ A1 30 hp (by rw [hsv0, if_pos this]))
  refine ev_bind (ev_LL (fun μ st A' => ∃ i fr L, μ = s.length + 2 - i ∧ 1 ≤ i ∧ i ≤ s.length + 2 ∧ 1 ≤ fr ∧ fr ≤ i ∧ st.2 = (((fr : Nat) : Int), ((i : Nat) : Int), ()) ∧ Hp (tabsOf os) A' (txts st.1 L l) ∧ [] ∉ L ∧ L.length < i ∧
      (i ≤ s.length + 1 → cutB s = L ++ consH (((47 :: s).take i).drop fr) (cutB ((47 :: s).drop i))) ∧ (i = s.length + 2 → cutB s = L)) (m := s.length + 1)
    ⟨1, 1, [], by omega, by omega, by omega, by omega, by omega, rfl, hp.vec0 _ 1 false, by simp, by simp, fun _ => by
      have e : ((47 :: s).take 1).drop 1 = ([] : List UInt8) := rfl
      rw [e, consH_nil (cutB_ne _)]; rfl, fun e => by omega⟩ (by omega) ?_)
  rintro μ ⟨sl, fr0, i0, u⟩ A2 ⟨i, fr, L, rfl, hi1, hi, hf1, hfi, e, hp, hL0, hLl, hw, hw2⟩
  simp only [Prod.mk.injEq] at e hp
  obtain ⟨rfl, rfl, _⟩ := e
  simp only
  rw [leB_nat]
  refine ev_ite (fun h => ?_) fun h => ?_
  · rw [decide_eq_true_eq, hlen] at h
    have hw := hw h
    refine ev_join (fun j A' => ∃ fr' L', 1 ≤ fr' ∧ fr' ≤ i + 1 ∧ j.2.1 = ((fr' : Nat) : Int) ∧ Hp (tabsOf os) A' (txts j.1 L' l) ∧ [] ∉ L' ∧ L'.length < i + 1 ∧
      (i + 1 ≤ s.length + 1 → cutB s = L' ++ consH (((47 :: s).take (i + 1)).drop fr') (cutB ((47 :: s).drop (i + 1)))) ∧ (i + 1 = s.length + 2 → cutB s = L')) ?_ fun go hgo => ?_
    · rintro ⟨sl', fr2, _⟩ A4 ⟨fr', L', g1, g2, rfl, g3, g4, g5, g6, g7⟩
      exact ev_pure ⟨s.length + 2 - (i + 1), by omega, i + 1, fr', L', rfl, by omega, by omega, g1, g2, by simp only; rw [addW_1 (by omega)], g3, g4, g5, g6, g7⟩
    refine ev_join (fun j A' => Hp (tabsOf os) A' (txts sl L l) ∧ j = (decide (i = s.length + 1 ∨ (47 :: s)[i]? = some 47), ())) ?_ fun go2 hgo2 => ?_
    rotate_left
    · rw [eqB_nat, hlen]
      refine ev_ite (fun h1 => ?_) fun h1 => ?_
      · rw [decide_eq_true_eq] at h1
        exact hgo2 _ A2 ⟨hp, by rw [decide_eq_true (.inl h1)]⟩
      rw [decide_eq_false_iff_not] at h1
      have hlt : i < (47 :: s : List UInt8).length := by rw [hlen]; omega
      refine ev_guard (by rw [inB_nat]; exact decide_eq_true (by omega)) (hgo2 _ A2 ⟨hp, ?_⟩)
      rw [byteN (47 :: s) hlt, eqB_lit, List.getElem?_eq_getElem hlt]
      congr 1
      apply decide_eq_decide.2
      constructor
      · intro e; exact .inr (congrArg some (UInt8.toNat_inj.1 (by rw [e]; rfl)))
      · rintro (e | e)
        · exact absurd e h1
        · rw [Option.some.inj e]; rfl
    rintro _ A3 ⟨hp, rfl⟩
    have hdrop : ∀ hlt : i < (47 :: s : List UInt8).length, (47 :: s : List UInt8).drop i = (47 :: s)[i] :: (47 :: s).drop (i + 1) := fun hlt => List.drop_eq_getElem_cons hlt
    refine ev_ite (fun h1 => ?_) fun h1 => ?_
    · simp only at h1
      rw [decide_eq_true_eq] at h1
      have hcut : cutB s = L ++ ((47 :: s).take i).drop fr :: (if i = s.length + 1 then [] else cutB ((47 :: s).drop (i + 1))) := by
        rw [hw]
        by_cases e : i = s.length + 1
        · rw [if_pos e, List.drop_of_length_le (show (47 :: s : List UInt8).length ≤ i by rw [hlen]; omega), cut_end]
        · rw [if_neg e]
          have hlt : i < (47 :: s : List UInt8).length := by rw [hlen]; omega
          have h2 := h1.resolve_left e
          rw [List.getElem?_eq_getElem hlt] at h2
          rw [hdrop hlt, Option.some.inj h2, cut_step]
      rw [eqB_nat]
      refine ev_ite (fun h2 => ?_) fun h2 => ?_
      · rw [decide_eq_true_eq] at h2
        have : [] ∈ cutB s := by
          rw [hcut, ← h2, List.drop_of_length_le (show ((47 :: s : List UInt8).take i).length ≤ i by rw [List.length_take]; omega)]
          simp
        exact ev_pure (ev_pure (none_ A3 30 hp.tail (by rw [hsv0, if_pos this])))
      rw [decide_eq_false_iff_not] at h2
      refine ev_guard (by rw [upB_nat]; exact decide_eq_true (by omega)) (ev_guard (by rw [Int.toNat_natCast, upB_nat]; exact decide_eq_true hfi) ?_)
      rw [Int.toNat_natCast, Int.toNat_natCast, BA_extract]
      refine ev_txt (((47 :: s).take i).drop fr) hp (by omega) fun A4 a n hp => ?_
      rw [addW_1 (by omega)]
      have hxl : (((47 :: s : List UInt8).take i).drop fr).length = i - fr := by rw [List.length_drop, List.length_take, hlen]; omega
      refine hgo ((a, n, n), _, ()) A4 ⟨i + 1, L ++ [((47 :: s).take i).drop fr], by omega, by omega, rfl, hp, ?_, by simp only [List.length_append, List.length_cons, List.length_nil]; omega, fun hle => ?_, fun he => ?_⟩
      · intro hm
        rcases List.mem_append.1 hm with hm | hm
        · exact hL0 hm
        · have := congrArg List.length (List.mem_singleton.1 hm)
          rw [hxl] at this
          have : 0 = i - fr := this
          omega
      · rw [if_neg (by omega)] at hcut
        have e3 : ((47 :: s : List UInt8).take (i + 1)).drop (i + 1) = [] := List.drop_of_length_le (by rw [List.length_take]; omega)
        rw [e3, consH_nil (cutB_ne _), hcut]
        simp
      · rw [if_pos (by omega)] at hcut
        exact hcut
    · simp only at h1
      rw [decide_eq_false_iff_not] at h1
      have e1 : ¬ i = s.length + 1 := fun e => h1 (.inl e)
      have hlt : i < (47 :: s : List UInt8).length := by rw [hlen]; omega
      have hne : (47 :: s)[i] ≠ 47 := fun e => h1 (.inr (by rw [List.getElem?_eq_getElem hlt, e]))
      refine hgo _ A3 ⟨fr, L, hf1, by omega, rfl, hp, hL0, by omega, fun _ => ?_, fun e => by omega⟩
      rw [hw, hdrop hlt, cut_more _ _ hne]
      congr 2
      rw [List.take_add_one, List.getElem?_eq_getElem hlt, List.drop_append_of_le_length (by rw [List.length_take, hlen]; omega)]
      rfl
  · rw [decide_eq_false_iff_not, hlen] at h
    have hcut := hw2 (by omega)
    subst hcut
    rw [if_neg hL0] at hsv0
    refine ev_pure ?_
    simp only [Round, M.sum]
    have hplen := fun x hx => part_len s x hx
    have hLn : (cutB s).length < 2 ^ 38 := by omega
    generalize cutB s = L at *
    obtain ⟨h2, h3⟩ := txts_len hp
    refine ev_bind (ev_LL (fun m st A' => ∃ i, m = L.length - i ∧ i ≤ L.length ∧ st = (((i : Nat) : Int), ()) ∧ Hp (tabsOf os) A' (txts sl L l) ∧ ∀ x ∈ L.take i, validG x = true) (m := L.length) ⟨0, rfl, by omega, rfl, hp, by simp⟩ (by omega) ?_)
    rintro m st A4 ⟨i, rfl, hi, rfl, hp, hall⟩
    simp only [ltB_nat, inB_nat, Int.toNat_natCast, h2]
    refine ev_ite (fun h => ?_) fun h => ?_
    · rw [decide_eq_true_eq] at h
      refine ev_guard (decide_eq_true h) ?_
      refine ev_nth 0 (i := i) hp rfl h ?_
      refine ((refValidG L[i] (by have := hplen L[i] (List.getElem_mem h); omega)).mono (show 3 ≤ 4 by decide)).use hn hp rfl fun A5 hp => ?_
      cases hv : validG L[i] with
      | true =>
        refine ev_f rfl (ev_pure ⟨L.length - (i + 1), by omega, i + 1, rfl, by omega, by rw [addW_1 (by omega)], hp, fun x hx => ?_⟩)
        rw [List.take_add_one, List.getElem?_eq_getElem h] at hx
        simp only [Option.toList_some, List.mem_append, List.mem_singleton] at hx
        rcases hx with hx | rfl
        · exact hall x hx
        · exact hv
      | false =>
        have : L.all validG = false := by
          rw [List.all_eq_false]
          exact ⟨L[i], List.getElem_mem h, by rw [hv]; simp⟩
        rw [this] at hsv0
        exact ev_t rfl (ev_pure (ev_pure (none_ A5 31 hp.tail hsv0)))
    · rw [decide_eq_false_iff_not] at h
      rw [List.take_of_length_le (by omega)] at hall
      have : L.all validG = true := List.all_eq_true.2 hall
      rw [this, if_pos rfl] at hsv0
      rw [hsv0] at H
      refine ev_pure ?_
      simp only [Round, M.sum]
      refine ev_pure ?_
      have := H A4 sl hp
      rw [h2] at this
      exact this
end
end Go.Proofs.YtidadbppnmnfmaaGreatDoor.pa
