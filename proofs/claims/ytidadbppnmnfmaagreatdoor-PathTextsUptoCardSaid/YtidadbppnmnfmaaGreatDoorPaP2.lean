/-
  Walks: path.Split, slices.Equal, path.Under.
-/
import Derived.Test.YtidadbppnmnfmaaGreatDoorPaP1
namespace Go.Proofs.YtidadbppnmnfmaaGreatDoor.pa
open Go Go.Eng Go.Sh
section
variable {os : List (Nat × AObj)} {A : AW} {Q : Value → AW → Prop} {l : List Thing}
theorem cutB_len (s : List UInt8) : (cutB s).length ≤ s.length + 1 := by
  induction s with
  | nil => simp [cutB]
  | cons c t ih =>
    rw [cutB]
    split
    · simp only [List.length_cons]; omega
    · have : (consH [c] (cutB t)).length = (cutB t).length := by
        cases h : cutB t with
        | nil => exact absurd h (cutB_ne t)
        | cons a r => rfl
      rw [this, List.length_cons]; omega
theorem part_len : ∀ (s x : List UInt8), x ∈ cutB s → x.length ≤ s.length
  | [], x, h => by
    simp only [cutB, List.mem_singleton] at h
    subst h; simp
  | c :: t, x, h => by
    rw [cutB] at h
    split at h
    · rcases List.mem_cons.1 h with rfl | h
      · simp
      · have := part_len t x h
        simp only [List.length_cons]; omega
    · cases hct : cutB t with
      | nil => exact absurd hct (cutB_ne t)
      | cons a r =>
        rw [hct] at h
        simp only [consH] at h
        rcases List.mem_cons.1 h with rfl | h
        · have := part_len t a (by rw [hct]; simp)
          simp only [List.length_append, List.length_cons, List.length_nil]; omega
        · have := part_len t x (by rw [hct]; simp [h])
          simp only [List.length_cons]; omega
theorem splitV_len (v : List UInt8 → Bool) (p : List UInt8) : (splitV v p).1.length ≤ 256 := by
  have := cutB_len (p.drop 1)
  rw [List.length_drop] at this
  unfold splitV
  split
  · simp
  · rename_i h
    have h1 : ¬ 256 < p.length := fun e => h (.inl e)
    split
    · simp
    · split
      · simp
      · split
        · simp only
          cases p with
          | nil => exact absurd (.inr (by simp)) h
          | cons c t => simp only [List.length_cons] at *; omega
        · simp
theorem splitG (p : List UInt8) (hr : Runes os) (hp : Hp (tabsOf os) A l) (H : ∀ A' sl, Hp (tabsOf os) A' (txts sl (splitV validG p).1 l) → Q (.tuple ⟨[.slice sl.1 sl.2.1 sl.2.2, .int .i64 ((splitV validG p).2 : Int)]⟩) A') : Goes (XX os) 5 6 [.string (BA p)] A Q := by
  refine t6 (d := 4) (BA p, ()) fun n hn => ?_
  simp only [f6, f6c1, f6c0]
  have none_ : ∀ A' m, Hp (tabsOf os) A' l → splitV validG p = ([], m) → Q (.tuple ⟨[.slice none 0 0, .int .i64 (m : Int)]⟩) A' := fun A' m h' e => by
    rw [e] at H
    exact H A' (none, 0, 0) (h'.vec0 _ 1 false)
  refine ev_join (fun j A' => Hp (tabsOf os) A' l ∧ j = (decide (256 < p.length ∨ p.take 1 ≠ [47]), ())) ?_ fun go hgo => ?_
  rotate_left
  · simp only [BA_size]
    rw [ltB_lit']
    refine ev_ite (fun h1 => ?_) fun h1 => ?_
    · rw [decide_eq_true_eq] at h1
      exact hgo _ A ⟨hp, by rw [decide_eq_true (.inl h1)]⟩
    rw [decide_eq_false_iff_not] at h1
    rw [show st1 = BA [47] from rfl]
    refine ((prefixG p [47]).mono (show 2 ≤ 4 by decide)).use hn hp rfl fun A1 hp => ?_
    refine hgo _ A1 ⟨hp, ?_⟩
    rw [show [(47 : UInt8)].length = 1 from rfl]
    by_cases h2 : p.take 1 = [47]
    · rw [decide_eq_true h2, decide_eq_false (fun h => h.elim h1 fun h => h h2)]; rfl
    · rw [decide_eq_false h2, decide_eq_true (.inr h2)]; rfl
  rintro _ A1 ⟨hp, rfl⟩
  refine ev_ite (fun h => ?_) fun h => ?_
  · simp only at h
    rw [decide_eq_true_eq] at h
    exact ev_pure (none_ A1 30 hp (by unfold splitV; rw [if_pos h]))
  simp only at h
  rw [decide_eq_false_iff_not] at h
  rw [show st1 = BA [47] from rfl, BA_seq]
  by_cases h47 : p = [47]
  · refine ev_t (decide_eq_true h47) (ev_pure (none_ A1 0 hp ?_))
    unfold splitV
    rw [if_neg h, if_pos h47]
  refine ev_f (decide_eq_false h47) ?_
  have hs : p.length ≤ 256 := Nat.le_of_not_lt fun e => h (.inl e)
  have h1 : 1 ≤ p.length := by
    cases p with
    | nil => exact absurd (.inr (by simp)) h
    | cons c t => simp
  refine ev_guard (by rw [upB_1]; exact decide_eq_true h1) ?_
  rw [show Int.toNat 1 = 1 from rfl, BA_from]
  have hsv : splitV validG p = if [] ∈ cutB (p.drop 1) then ([], 30) else if (cutB (p.drop 1)).all validG then (cutB (p.drop 1), 0) else ([], 31) := by
    unfold splitV
    rw [if_neg h, if_neg h47]
  have hcl := cutB_len (p.drop 1)
  rw [List.length_drop] at hcl
  refine ((cutG (p.drop 1) (by rw [List.length_drop]; omega) hp fun A2 sl hp => ⟨sl, rfl, ?_⟩).mono (show 1 ≤ 4 by decide)).use hn
  rw [show st0 = BA [] from rfl]
  refine ((containsG 0 [] hp rfl (by omega) fun A3 hp => ⟨_, rfl, ?_⟩).mono (show 2 ≤ 4 by decide)).use hn
  by_cases hc : [] ∈ cutB (p.drop 1)
  · rw [if_pos hc] at hsv
    exact ev_t (decide_eq_true hc) (ev_pure (none_ A3 30 hp.tail hsv))
  rw [if_neg hc] at hsv
  refine ev_f (decide_eq_false hc) ?_
  have hplen := fun x hx => part_len (p.drop 1) x hx
  rw [List.length_drop] at hplen
  generalize cutB (p.drop 1) = L at *
  obtain ⟨h2, h3⟩ := txts_len hp
  refine ev_bind (ev_LL (fun m st A' => ∃ i, m = L.length - i ∧ i ≤ L.length ∧ st = (((i : Nat) : Int), ()) ∧ Hp (tabsOf os) A' (txts sl L l) ∧ ∀ x ∈ L.take i, validG x = true) (m := L.length) ⟨0, rfl, by omega, rfl, hp, by simp⟩ (by omega) ?_)
  rintro m st A4 ⟨i, rfl, hi, rfl, hp, hall⟩
  simp only [ltB_nat, inB_nat, Int.toNat_natCast, h2]
  refine ev_ite (fun h => ?_) fun h => ?_
  · rw [decide_eq_true_eq] at h
    refine ev_guard (decide_eq_true h) ?_
    refine ev_nth 0 (i := i) hp rfl h ?_
    refine (validGG L[i] (by have := hplen L[i] (List.getElem_mem h); omega) hr).use hn hp rfl fun A5 hp => ?_
    cases hv : validG L[i] with
    | true =>
      refine ev_f rfl (ev_pure ⟨L.length - (i + 1), by omega, i + 1, rfl, by omega, by rw [addW_1 (by omega)], hp, fun x hx => ?_⟩)
      rw [List.take_add_one, List.getElem?_eq_getElem h] at hx
      simp only [Option.toList_some, List.mem_append, List.mem_singleton] at hx
      rcases hx with hx | rfl
      · exact hall x hx
      · exact hv
    | false =>
      have : L.all validG = false := by
        rw [List.all_eq_false]
        exact ⟨L[i], List.getElem_mem h, by rw [hv]; simp⟩
      rw [this] at hsv
      exact ev_t rfl (ev_pure (ev_pure (none_ A5 31 hp.tail hsv)))
  · rw [decide_eq_false_iff_not] at h
    rw [List.take_of_length_le (by omega)] at hall
    have : L.all validG = true := List.all_eq_true.2 hall
    rw [this, if_pos rfl] at hsv
    rw [hsv] at H
    refine ev_pure ?_
    simp only [Round, M.sum]
    refine ev_pure ?_
    have := H A4 sl hp
    rw [h2] at this
    exact this
theorem equalG (j1 j2 : Nat) {e e' : Nat} {ish ish' : Bool} {a a' : Option Addr} {n c n' c' m c2 : Nat} {X Y : List (List UInt8)} (hp : Hp (tabsOf os) A l) (h1 : l[j1]? = some (.vec e 1 ish a n c (strs X))) (h2 : l[j2]? = some (.vec e' 1 ish' a' n' c' (strs Y))) (hm : m ≤ Y.length) (hX : X.length < 2 ^ 38)
    (H : ∀ A', Hp (tabsOf os) A' l → Q (.bool (decide (X = Y.take m))) A') : Goes (XX os) 1 20 [.slice a X.length c, .slice a' m c2] A Q := by
  refine t20 (d := 0) ((a, X.length, c), (a', m, c2), ()) fun k hk => ?_
  simp only [f20, f20c0, eqB_nat]
  by_cases hl : X.length = m
  rotate_left
  · have : X ≠ Y.take m := fun e => hl (by rw [e, List.length_take]; omega)
    rw [decide_eq_false this] at H
    exact ev_t (by rw [decide_eq_false hl]; rfl) (ev_pure (H A hp))
  refine ev_f (by rw [decide_eq_true hl]; rfl) ?_
  refine ev_bind (ev_LL (fun μ st A' => ∃ i, μ = X.length - i ∧ i ≤ X.length ∧ st = (((i : Nat) : Int), ()) ∧ Hp (tabsOf os) A' l ∧ X.take i = Y.take i) (m := X.length) ⟨0, rfl, by omega, rfl, hp, by simp⟩ (by omega) ?_)
  rintro μ st A2 ⟨i, rfl, hi, rfl, hp, heq⟩
  simp only [ltB_nat, inB_nat, Int.toNat_natCast]
  refine ev_ite (fun h => ?_) fun h => ?_
  · rw [decide_eq_true_eq] at h
    have hY : i < Y.length := by omega
    refine ev_guard (decide_eq_true h) ?_
    refine ev_nth j1 (i := i) hp h1 h ?_
    refine ev_guard (decide_eq_true (by omega)) ?_
    refine ev_nth j2 (i := i) hp h2 hY ?_
    rw [BA_seq]
    by_cases hv : X[i] = Y[i]
    · refine ev_f (by rw [decide_eq_true hv]; rfl) (ev_pure ⟨X.length - (i + 1), by omega, i + 1, rfl, by omega, by rw [addW_1 (by omega)], hp, ?_⟩)
      rw [List.take_add_one, List.take_add_one, List.getElem?_eq_getElem h, List.getElem?_eq_getElem hY, heq, hv]
    · have : X ≠ Y.take m := fun e => hv (by
        have := congrArg (fun z => z[i]?) e
        simp only [List.getElem?_take, List.getElem?_eq_getElem h, List.getElem?_eq_getElem hY] at this
        rw [if_pos (by omega)] at this
        exact Option.some.inj this)
      rw [decide_eq_false this] at H
      exact ev_t (by rw [decide_eq_false hv]; rfl) (ev_pure (ev_pure (H A2 hp)))
  · rw [decide_eq_false_iff_not] at h
    rw [List.take_of_length_le (show X.length ≤ i by omega)] at heq
    have : X = Y.take m := by rw [heq]; congr 1; omega
    rw [decide_eq_true this] at H
    exact ev_pure (ev_pure (H A2 hp))
theorem underGG (a b : List UInt8) (hr : Runes os) : Gives (tabsOf os) (XX os) 6 11 [.string (BA a), .string (BA b)] (.bool (underV validG a b)) := by
  intro A l Q hp H
  refine t11 (d := 5) (BA a, BA b, ()) fun n hn => ?_
  simp only [f11, f11c0]
  refine (splitG a hr hp fun A1 sx hp => ⟨(sx, _, ()), rfl, ?_⟩).use hn
  refine (splitG b hr hp fun A2 sy hp => ⟨(sy, _, ()), rfl, ?_⟩).use hn
  have hlx := splitV_len validG a
  unfold underV at H
  generalize splitV validG a = x at *
  generalize splitV validG b = y at *
  obtain ⟨hy1, hy2⟩ := txts_len hp
  obtain ⟨hx1, hx2⟩ := txts_len hp.tail
  simp only [M.join]
  rw [eqB_lit, eqB_lit, hx1, hy1, ltB_nat]
  have no : ∀ {A' : AW}, Hp (tabsOf os) A' (txts sy y.1 (txts sx x.1 l)) → (decide (x.2 = 0) && (decide (y.2 = 0) && (decide (x.1.length < y.1.length) && decide (x.1 = y.1.take x.1.length)))) = false → Q (.bool false) A' := fun h' e => by
    rw [e] at H
    exact H _ h'.tail.tail
  refine ev_ite (fun h1 => ?_) fun h1 => ?_
  rotate_left
  · exact ev_pure (no hp (by rw [show decide (x.2 = 0) = false from h1]; rfl))
  refine ev_ite (fun h2 => ?_) fun h2 => ?_
  rotate_left
  · exact ev_pure (no hp (by rw [show decide (x.2 = 0) = true from h1, show decide (y.2 = 0) = false from h2]; rfl))
  refine ev_ite (fun h3 => ?_) fun h3 => ?_
  rotate_left
  · exact ev_pure (no hp (by rw [show decide (x.2 = 0) = true from h1, show decide (y.2 = 0) = true from h2, h3]; rfl))
  have h3' := h3
  rw [decide_eq_true_eq] at h3'
  refine ev_guard (by rw [upB_nat, hy2]; exact decide_eq_true (by omega)) ?_
  obtain ⟨bb, hbb⟩ := txts_some hp (by omega)
  have hm : sy.1.map (·.add (0 * 1)) = sy.1 := by rw [hbb]; rfl
  rw [hm, Int.toNat_natCast, Nat.sub_zero, Nat.sub_zero]
  refine ((equalG 1 0 hp rfl rfl (by omega) (by omega) fun A3 hp => ⟨_, rfl, ev_pure ?_⟩).mono (show 1 ≤ 5 by decide)).use hn
  have := H A3 hp.tail.tail
  rw [show decide (x.2 = 0) = true from h1, show decide (y.2 = 0) = true from h2, h3] at this
  exact this
end
end Go.Proofs.YtidadbppnmnfmaaGreatDoor.pa
