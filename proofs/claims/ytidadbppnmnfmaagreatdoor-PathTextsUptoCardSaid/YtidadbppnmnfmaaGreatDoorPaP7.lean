/-
  Walks: the document's Join, Under; PathTexts.
-/
import Derived.Test.YtidadbppnmnfmaaGreatDoorPaP6
namespace Go.Proofs.YtidadbppnmnfmaaGreatDoor.pa
open Go Go.Eng Go.Sh
section
variable {os : List (Nat × AObj)} {A : AW} {Q : Value → AW → Prop} {l : List Thing}
/-- The texts that lie at a, all at once. -/
def Lies (T : Tabs) (a : Option Addr) (L : List (List UInt8)) : Prop := ∀ A, Hp T A [] → ∀ m c, A.elems 1 L.length (.slice a m c) = some (strs L)
theorem strs_one (L : List (List UInt8)) : (strs L).all Value.oneCell' = true := by
  rw [List.all_eq_true]
  intro v hv
  obtain ⟨x, _, rfl⟩ := List.mem_map.1 hv
  rfl
theorem refJoinG {a : Option Addr} {c : Nat} {L : List (List UInt8)} (hs : Sees (tabsOf os) l a L) (hW : (slashed L).length < 2 ^ 38) (hL : L.length < 2 ^ 38) (hp : Hp (tabsOf os) A l)
    (H : ∀ A', Hp (tabsOf os) A' l → Q (.tuple ⟨[.string (BA (joinV validG L).1), .int .i64 ((joinV validG L).2 : Int)]⟩) A') : Goes (XX os) 5 9 [.slice a L.length c] A Q := by
  refine t9 (d := 4) ((a, L.length, c), ()) fun n hn => ?_
  simp only [f9, f9c1, f9c0]
  have hx : ∀ x ∈ L, x.length < 2 ^ 38 := fun x hx => Nat.lt_of_le_of_lt (len_slashed x L hx) hW
  rw [show st0 = BA [] from rfl, show st1 = BA [47] from rfl]
  refine ev_bind (ev_LL (fun μ st A' => ∃ i w, μ = L.length - i ∧ i ≤ L.length ∧ st = (BA w, ((i : Nat) : Int), ()) ∧ Hp (tabsOf os) A' l ∧ (∀ x ∈ L.take i, validG x = true) ∧ (w = slashed (L.take i) ∨ (256 < w.length ∧ 256 < (slashed (L.take i)).length)) ∧ w.length < 2 ^ 39) (m := L.length)
    ⟨0, [], rfl, by omega, rfl, hp, by simp, .inl rfl, by decide⟩ (by omega) ?_)
  rintro m st A4 ⟨i, w, rfl, hi, rfl, hp, hall, hw, hwl⟩
  simp only [ltB_nat, inB_nat, Int.toNat_natCast]
  refine ev_ite (fun h => ?_) fun h => ?_
  · rw [decide_eq_true_eq] at h
    have hxi := hx L[i] (List.getElem_mem h)
    have hnx : slashed (L.take (i + 1)) = slashed (L.take i) ++ ([47] ++ L[i]) := by
      rw [List.take_add_one, slashed_append, List.getElem?_eq_getElem h]; simp [slashed]
    refine ev_join (fun j A' => ∃ w', Hp (tabsOf os) A' l ∧ j = (BA w', ()) ∧ validG L[i] = true ∧ (w' = slashed (L.take (i + 1)) ∨ (256 < w'.length ∧ 256 < (slashed (L.take (i + 1))).length)) ∧ w'.length < 2 ^ 39) ?_ fun go hgo => ?_
    · rintro _ A5 ⟨w', hp, rfl, hv, g1, g2⟩
      refine ev_pure ⟨L.length - (i + 1), by omega, i + 1, w', rfl, by omega, by rw [addW_1 (by omega)], hp, fun x hx => ?_, g1, g2⟩
      rw [List.take_add_one, List.getElem?_eq_getElem h] at hx
      simp only [Option.toList_some, List.mem_append, List.mem_singleton] at hx
      rcases hx with hx | rfl
      · exact hall x hx
      · exact hv
    refine ev_guard (decide_eq_true h) ?_
    refine ev_see hp hs h ?_
    refine ((refValidG L[i] hxi).mono (show 3 ≤ 4 by decide)).use hn hp rfl fun A5 hp => ?_
    cases hv : validG L[i] with
    | false =>
      have : L.all validG = false := by
        rw [List.all_eq_false]
        exact ⟨L[i], List.getElem_mem h, by rw [hv]; simp⟩
      have hj : joinV validG L = ([], 31) := by unfold joinV; rw [this]; rfl
      rw [hj] at H
      exact ev_t rfl (ev_pure (ev_pure (H A5 hp)))
    | true =>
      refine ev_f rfl ?_
      simp only [BA_size]
      rw [leB_lit]
      refine ev_ite (fun h1 => ?_) fun h1 => ?_
      · rw [decide_eq_true_eq] at h1
        have hwe : w = slashed (L.take i) := hw.elim id fun e => by omega
        refine ev_guard (Nat.ble_eq_true_of_le (by show w.length + 1 ≤ _; omega)) ?_
        rw [BA_append]
        refine ev_guard (decide_eq_true h) ?_
        refine ev_see hp hs h ?_
        rw [BA_append]
        refine ev_guard (Nat.ble_eq_true_of_le (by simp only [BA_size, List.length_append, List.length_cons, List.length_nil]; omega)) ?_
        refine hgo _ A5 ⟨_, hp, rfl, hv, .inl ?_, by simp only [List.length_append, List.length_cons, List.length_nil]; omega⟩
        rw [hnx, hwe, List.append_assoc]
      · rw [decide_eq_false_iff_not] at h1
        refine hgo _ A5 ⟨w, hp, rfl, hv, .inr ⟨by omega, ?_⟩, hwl⟩
        rw [hnx, List.length_append]
        rcases hw with e | ⟨_, e⟩
        · rw [← e]; omega
        · omega
  · rw [decide_eq_false_iff_not] at h
    rw [List.take_of_length_le (by omega)] at hall hw
    have this : L.all validG = true := List.all_eq_true.2 hall
    have hj : joinV validG L = if 256 < (slashed L).length then ([], 30) else if slashed L = [] then ([47], 0) else (slashed L, 0) := by unfold joinV; rw [if_pos this]
    rw [hj] at H
    refine ev_pure ?_
    simp only [Round, M.sum]
    rw [BA_size, ltB_lit', BA_seq]
    refine ev_ite (fun h1 => ?_) fun h1 => ?_
    · rw [decide_eq_true_eq] at h1
      rw [if_pos (by rcases hw with e | e; rw [← e]; exact h1; exact e.2)] at H
      exact ev_pure (H A4 hp)
    rw [decide_eq_false_iff_not] at h1
    have hwe : w = slashed L := hw.elim id fun e => absurd e.1 h1
    subst hwe
    rw [if_neg h1] at H
    refine ev_ite (fun h2 => ?_) fun h2 => ?_
    · rw [decide_eq_true_eq] at h2
      rw [if_pos h2] at H
      exact ev_pure (H A4 hp)
    · rw [decide_eq_false_iff_not] at h2
      rw [if_neg h2] at H
      exact ev_pure (H A4 hp)
theorem refUnderG (a b : List UInt8) (ha : a.length < 2 ^ 38) (hb : b.length < 2 ^ 38) : Gives (tabsOf os) (XX os) 6 12 [.string (BA a), .string (BA b)] (.bool (underV validG a b)) := by
  intro A l Q hp H
  refine t12 (d := 5) (BA a, BA b, ()) fun n hn => ?_
  simp only [f12, f12c1, f12c0]
  refine (refSplitG a ha hp fun A1 sx hp => ⟨(sx, _, ()), rfl, ?_⟩).use hn
  refine (refSplitG b hb hp fun A2 sy hp => ⟨(sy, _, ()), rfl, ?_⟩).use hn
  have hlx := splitV_len validG a
  unfold underV at H
  generalize splitV validG a = x at *
  generalize splitV validG b = y at *
  obtain ⟨hy1, hy2⟩ := txts_len hp
  obtain ⟨hx1, hx2⟩ := txts_len hp.tail
  obtain ⟨B, hB⟩ : ∃ B, B = (!decide (x.2 = 0) || (!decide (y.2 = 0) || decide (y.1.length ≤ x.1.length))) := ⟨_, rfl⟩
  have hres : (decide (x.2 = 0) && (decide (y.2 = 0) && (decide (x.1.length < y.1.length) && decide (x.1 = y.1.take x.1.length)))) = (!B && decide (x.1 = y.1.take x.1.length)) := by
    rw [hB]
    by_cases k1 : x.2 = 0 <;> by_cases k2 : y.2 = 0 <;> by_cases k3 : x.1.length < y.1.length <;> simp [k1, k2, k3]
    all_goals (first | omega | (intro k4; omega))
  rw [hres] at H
  refine ev_join (fun j A' => Hp (tabsOf os) A' (txts sy y.1 (txts sx x.1 l)) ∧ j = (B, ())) ?_ fun go hgo => ?_
  rotate_left
  · simp only
    rw [eqB_lit, eqB_lit, hx1, hy1, leB_nat]
    refine ev_ite (fun h1 => hgo _ A2 ⟨hp, by rw [hB, h1]; rfl⟩) fun h1 => ?_
    refine ev_ite (fun h2 => hgo _ A2 ⟨hp, by rw [hB, h1, h2]; rfl⟩) fun h2 => ?_
    exact hgo _ A2 ⟨hp, by rw [hB, h1, h2]; rfl⟩
  rintro _ A3 ⟨hp, rfl⟩
  refine ev_ite (fun h => ?_) fun h => ?_
  · simp only at h
    rw [h] at H
    exact ev_pure (H A3 hp.tail.tail)
  simp only at h
  rw [h] at H
  simp only [Bool.not_false, Bool.true_and] at H
  have hlt : x.1.length < y.1.length := by
    rw [hB] at h
    simp only [Bool.or_eq_false_iff, decide_eq_false_iff_not] at h
    omega
  obtain ⟨x1, x2⟩ := x
  obtain ⟨y1, y2⟩ := y
  simp only at *
  refine ev_bind (ev_LL (fun μ st A' => ∃ i, μ = x1.length - i ∧ i ≤ x1.length ∧ st = (((i : Nat) : Int), ()) ∧ Hp (tabsOf os) A' (txts sy y1 (txts sx x1 l)) ∧ x1.take i = y1.take i) (m := x1.length) ⟨0, rfl, by omega, rfl, hp, by simp⟩ (by omega) ?_)
  rintro μ st A4 ⟨i, rfl, hi, rfl, hp, heq⟩
  simp only [ltB_nat, inB_nat, Int.toNat_natCast, hx1, hy1]
  refine ev_ite (fun h => ?_) fun h => ?_
  · rw [decide_eq_true_eq] at h
    have hY : i < y1.length := by omega
    refine ev_guard (decide_eq_true h) ?_
    refine ev_nth 1 (i := i) hp rfl h ?_
    refine ev_guard (decide_eq_true hY) ?_
    refine ev_nth 0 (i := i) hp rfl hY ?_
    rw [BA_seq]
    by_cases hv : x1[i] = y1[i]
    · refine ev_f (by rw [decide_eq_true hv]; rfl) (ev_pure ⟨x1.length - (i + 1), by omega, i + 1, rfl, by omega, by rw [addW_1 (by omega)], hp, ?_⟩)
      rw [List.take_add_one, List.take_add_one, List.getElem?_eq_getElem h, List.getElem?_eq_getElem hY, heq, hv]
    · have : x1 ≠ y1.take x1.length := fun e => hv (by
        have := congrArg (fun z => z[i]?) e
        simp only [List.getElem?_take, List.getElem?_eq_getElem h, List.getElem?_eq_getElem hY] at this
        rw [if_pos (by omega)] at this
        exact Option.some.inj this)
      rw [decide_eq_false this] at H
      exact ev_t (by rw [decide_eq_false hv]; rfl) (ev_pure (ev_pure (H A4 hp.tail.tail)))
  · rw [decide_eq_false_iff_not] at h
    rw [List.take_of_length_le (show x1.length ≤ i by omega)] at heq
    have e0 : i = x1.length := by omega
    have : x1 = y1.take x1.length := heq.trans (by rw [e0])
    rw [decide_eq_true this] at H
    exact ev_pure (ev_pure (H A4 hp.tail.tail))
set_option maxHeartbeats 1000000 in
theorem textsG (p q : List UInt8) {a : Option Addr} {c : Nat} {L : List (List UInt8)} (hpl : p.length < 2 ^ 38) (hql : q.length < 2 ^ 38) (hs : ∀ l, Sees (tabsOf os) l a L) (hl : Lies (tabsOf os) a L) (hW : (slashed L).length < 2 ^ 38) (hL : L.length < 2 ^ 38) (hr : Runes os) :
    Gives (tabsOf os) (XX os) 7 3 [.string (BA p), .string (BA q), .slice a L.length c] (.bool true) := by
  intro A l Q hp H
  refine t3 (d := 6) (BA p, BA q, (a, L.length, c), ()) fun n hn => ?_
  simp only [f3, f3c1, f3c0]
  have h0 : Hp (tabsOf os) A [] := by
    have := hp.drop l.length
    rwa [List.drop_length] at this
  have he := hl A h0 L.length c
  refine ev_append 0 (new := strs L) (m := L.length) (hp.vec0 9 1 false) rfl rfl he (by rw [strs_len, Nat.mul_one]) (Nat.le_refl _) (by decide) (by omega) (strs_one L) fun A1 a1 hp => ?_
  simp only [Nat.zero_add, List.nil_append, List.set_cons_zero] at hp ⊢
  refine ((splitG p hr hp fun A2 sx hp => ⟨(sx, _, ()), rfl, ?_⟩).mono (show 5 ≤ 6 by decide)).use hn
  refine ((refSplitG p hpl hp fun A3 sy hp => ⟨(sy, _, ()), rfl, ?_⟩).mono (show 5 ≤ 6 by decide)).use hn
  refine ((joinG (Sees.vec 2 rfl) hW hL hr hp fun A4 hp => ⟨_, rfl, ?_⟩).mono (show 5 ≤ 6 by decide)).use hn
  refine ((refJoinG (hs _) hW hL hp fun A5 hp => ⟨_, rfl, ?_⟩).mono (show 5 ≤ 6 by decide)).use hn
  have hxl := splitV_len validG p
  obtain ⟨hy1, hy2⟩ := txts_len hp
  obtain ⟨hx1, hx2⟩ := txts_len hp.tail
  refine ev_join (fun j A' => Hp (tabsOf os) A' l ∧ j = (true, ())) ?_ fun go hgo => ?_
  rotate_left
  · simp only
    rw [hx1, hy1]
    refine ((sameG (X := (splitV validG p).1) (Y := (splitV validG p).1) (Sees.vec 1 rfl) (Sees.vec 0 rfl) (by omega) (by omega) hp fun A7 hp => ⟨_, rfl, ?_⟩).mono (show 1 ≤ 6 by decide)).use hn
    refine ev_t (decide_eq_true rfl) ?_
    rw [eqB_nat]
    refine ev_t (decide_eq_true rfl) ?_
    rw [BA_seq]
    refine ev_t (decide_eq_true rfl) ?_
    rw [eqB_nat]
    refine ev_t (decide_eq_true rfl) ?_
    refine (underGG p q hr).use hn hp rfl fun A8 hp => ?_
    refine (refUnderG p q hpl hql).use hn hp rfl fun A9 hp => ?_
    refine ev_t (by simp) ?_
    refine ((sameG (X := L) (Y := L) (Sees.vec 2 rfl) (hs _) hL hL hp fun A10 hp => ⟨_, rfl, ?_⟩).mono (show 1 ≤ 6 by decide)).use hn
    refine ev_t (decide_eq_true rfl) ?_
    exact ((wakesG hp.tail.tail.tail ⟨true, rfl, hgo _ A10 ⟨hp.tail.tail.tail, rfl⟩⟩).mono (show 1 ≤ 6 by decide)).use hn
  rintro _ A7 ⟨hp, rfl⟩
  exact ev_pure (H A7 hp)
end
end Go.Proofs.YtidadbppnmnfmaaGreatDoor.pa
