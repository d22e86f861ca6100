/-
  Walks: texts that are seen in any heap; path.written, path.Join, the document's Same.
-/
import Derived.Test.YtidadbppnmnfmaaGreatDoorPaP3
import Derived.Test.YtidadbppnmnfmaaGreatDoorPlain
namespace Go.Proofs.YtidadbppnmnfmaaGreatDoor.pa
open Go Go.Eng Go.Sh
section
variable {os : List (Nat × AObj)} {A : AW} {Q : Value → AW → Prop} {l : List Thing}
/-- Texts that lie at a, whatever heap holds these things. -/
def Sees (T : Tabs) (l : List Thing) (a : Option Addr) (L : List (List UInt8)) : Prop := ∀ A, Hp T A l → ∀ (i : Nat) (hi : i < L.length), ∃ a', a = some a' ∧ A.peek (a'.add i) 1 = some [.string (BA (L[i]'hi))]
theorem Sees.cons {T : Tabs} {a : Option Addr} {L : List (List UInt8)} (h : Sees T l a L) (t : Thing) : Sees T (t :: l) a L := fun A hp => h A hp.tail
theorem strs_at {L : List (List UInt8)} {i : Nat} (hi : i < L.length) : ((strs L).drop i).take 1 = [.string (BA (L[i]'hi))] := by
  apply List.ext_getElem?
  intro k
  rw [List.getElem?_take, List.getElem?_drop]
  cases k with
  | zero => simp [strs, List.getElem?_eq_getElem hi]
  | succ k => simp
theorem Sees.vec {T : Tabs} (j : Nat) {e : Nat} {ish : Bool} {a : Option Addr} {n c : Nat} {L : List (List UInt8)} (hj : l[j]? = some (.vec e 1 ish a n c (strs L))) : Sees T l a L := fun A hp i hi => by
  obtain ⟨h1, h2, h3⟩ := hp.own j _ hj
  rw [strs_len] at h1
  cases a with
  | none => have h3 : n = 0 := h3; omega
  | some a =>
    obtain ⟨ha, _⟩ := h3
    refine ⟨a, rfl, ?_⟩
    have := peek_of (o := i) (n := 1) hp hj rfl (by rw [strs_len]; omega)
    rw [strs_at hi] at this
    rw [ha, add0]
    exact this
theorem ev_see {ρ : Type} {Q : ρ → AW → Prop} {a : Option Addr} {L : List (List UInt8)} {i : Nat} {K : ByteArray → M ρ} (hp : Hp (tabsOf os) A l) (h : Sees (tabsOf os) l a L) (hi : i < L.length) (H : Ev (K (BA (L[i]'hi))) A Q) :
    Ev (M.deref a fun a => M.load (.cell .string) 1 (a.add (i * 1)) fun (x : ByteArray) => K x) A Q := by
  obtain ⟨a', rfl, hk⟩ := h A hp i hi
  show Ev (M.load _ _ _ _) A Q
  rw [Nat.mul_one]
  obtain ⟨y, A', h1, h2⟩ := H
  exact ⟨y, A', (load_run (s := .cell .string) (k := K) (x := BA (L[i]'hi)) (by rw [hk]; rfl)).trans h1, h2⟩
theorem writtenG {a : Option Addr} {c : Nat} {L : List (List UInt8)} (hs : Sees (tabsOf os) l a L) (hW : (slashed L).length < 2 ^ 38) (hL : L.length < 2 ^ 38) (hp : Hp (tabsOf os) A l) (H : ∀ A', Hp (tabsOf os) A' l → Q (.string (BA (slashed L))) A') : Goes (XX os) 3 19 [.slice a L.length c] A Q := by
  refine t19 (d := 2) ((a, L.length, c), ()) fun n hn => ?_
  simp only [f19, f19c0]
  refine ev_new hp fun b A1 hp => ?_
  have hp := (hp.vec0 5 1 false).front 1 rfl
  refine ev_bind (ev_LL (fun μ st A' => ∃ i p a', μ = L.length - i ∧ i ≤ L.length ∧ st = (((i : Nat) : Int), ()) ∧ Hp (tabsOf os) A' (bldr b p a' (slashed (L.take i)) l) ∧ (p = none ∨ p = some ⟨b, 0, none⟩) ∧ (a' = none ∨ 1 ≤ (slashed (L.take i)).length)) (m := L.length)
    ⟨0, none, none, rfl, by omega, rfl, hp, .inl rfl, .inl rfl⟩ (by omega) ?_)
  rintro μ st A2 ⟨i, p, a', rfl, hi, rfl, hp, hpp, ha'⟩
  simp only [ltB_nat, inB_nat, Int.toNat_natCast]
  refine ev_ite (fun h => ?_) fun h => ?_
  · rw [decide_eq_true_eq] at h
    refine ev_guard (decide_eq_true h) ?_
    refine ev_see hp ((hs.cons _).cons _) h ?_
    have hw : slashed (L.take (i + 1)) = slashed (L.take i) ++ ([47] ++ L[i]) := by
      rw [List.take_add_one, slashed_append, List.getElem?_eq_getElem h]; simp [slashed]
    have hle : (slashed (L.take (i + 1))).length ≤ (slashed L).length := by
      conv => rhs; rw [← List.take_append_drop (i + 1) L, slashed_append, List.length_append]
      omega
    rw [hw, List.length_append, List.length_append] at hle
    have h1 : [(47 : UInt8)].length = 1 := rfl
    refine ev_guard (Nat.ble_eq_true_of_le (by show 1 + L[i].length ≤ _; omega)) ?_
    rw [show st1 = BA [47] from rfl, BA_append]
    refine (writeStringG ([47] ++ L[i]) hp hpp (by rw [List.length_append]; omega) fun A3 a3 hp => ⟨_, rfl, ?_⟩).use hn
    exact ev_pure ⟨L.length - (i + 1), by omega, i + 1, _, a3, rfl, by omega, by rw [addW_1 (by omega)], by rw [hw]; exact hp, .inr rfl, .inr (by rw [hw]; simp; omega)⟩
  · rw [decide_eq_false_iff_not] at h
    rw [List.take_of_length_le (by omega)] at hp ha'
    refine ev_pure ?_
    simp only [Round, M.sum]
    exact ((stringG hp (by omega) ha' fun A3 hp => ⟨_, rfl, ev_pure (H A3 hp)⟩).mono (show 1 ≤ 2 by decide)).use hn
theorem joinG {a : Option Addr} {c : Nat} {L : List (List UInt8)} (hs : Sees (tabsOf os) l a L) (hW : (slashed L).length < 2 ^ 38) (hL : L.length < 2 ^ 38) (hr : Runes os) (hp : Hp (tabsOf os) A l)
    (H : ∀ A', Hp (tabsOf os) A' l → Q (.tuple ⟨[.string (BA (joinV validG L).1), .int .i64 ((joinV validG L).2 : Int)]⟩) A') : Goes (XX os) 5 8 [.slice a L.length c] A Q := by
  refine t8 (d := 4) ((a, L.length, c), ()) fun n hn => ?_
  simp only [f8, f8c0]
  have hx : ∀ x ∈ L, x.length < 2 ^ 38 := fun x hx => Nat.lt_of_le_of_lt (len_slashed x L hx) hW
  refine ev_bind (ev_LL (fun μ st A' => ∃ i, μ = L.length - i ∧ i ≤ L.length ∧ st = (((i : Nat) : Int), ()) ∧ Hp (tabsOf os) A' l ∧ ∀ x ∈ L.take i, validG x = true) (m := L.length) ⟨0, rfl, by omega, rfl, hp, by simp⟩ (by omega) ?_)
  rintro m st A4 ⟨i, rfl, hi, rfl, hp, hall⟩
  simp only [ltB_nat, inB_nat, Int.toNat_natCast]
  refine ev_ite (fun h => ?_) fun h => ?_
  · rw [decide_eq_true_eq] at h
    refine ev_guard (decide_eq_true h) ?_
    refine ev_see hp hs h ?_
    refine (validGG L[i] (hx _ (List.getElem_mem h)) hr).use hn hp rfl fun A5 hp => ?_
    cases hv : validG L[i] with
    | true =>
      refine ev_f rfl (ev_pure ⟨L.length - (i + 1), by omega, i + 1, rfl, by omega, by rw [addW_1 (by omega)], hp, fun x hx => ?_⟩)
      rw [List.take_add_one, List.getElem?_eq_getElem h] at hx
      simp only [Option.toList_some, List.mem_append, List.mem_singleton] at hx
      rcases hx with hx | rfl
      · exact hall x hx
      · exact hv
    | false =>
      have : L.all validG = false := by
        rw [List.all_eq_false]
        exact ⟨L[i], List.getElem_mem h, by rw [hv]; simp⟩
      have hj : joinV validG L = ([], 31) := by unfold joinV; rw [this]; rfl
      rw [hj] at H
      exact ev_t rfl (ev_pure (ev_pure (H A5 hp)))
  · rw [decide_eq_false_iff_not] at h
    rw [List.take_of_length_le (by omega)] at hall
    have this : L.all validG = true := List.all_eq_true.2 hall
    have hj : joinV validG L = if 256 < (slashed L).length then ([], 30) else if slashed L = [] then ([47], 0) else (slashed L, 0) := by unfold joinV; rw [if_pos this]
    rw [hj] at H
    refine ev_pure ?_
    simp only [Round, M.sum]
    refine ((writtenG hs hW hL hp fun A5 hp => ⟨_, rfl, ?_⟩).mono (show 3 ≤ 4 by decide)).use hn
    rw [BA_size, ltB_lit']
    refine ev_ite (fun h1 => ?_) fun h1 => ?_
    · rw [decide_eq_true_eq] at h1
      rw [if_pos h1] at H
      exact ev_pure (H A5 hp)
    rw [decide_eq_false_iff_not] at h1
    rw [if_neg h1] at H
    rw [show st0 = BA [] from rfl, BA_seq]
    refine ev_ite (fun h2 => ?_) fun h2 => ?_
    · rw [decide_eq_true_eq] at h2
      rw [if_pos h2] at H
      exact ev_pure (H A5 hp)
    · rw [decide_eq_false_iff_not] at h2
      rw [if_neg h2] at H
      exact ev_pure (H A5 hp)
theorem sameG {a b : Option Addr} {c c' : Nat} {X Y : List (List UInt8)} (h1 : Sees (tabsOf os) l a X) (h2 : Sees (tabsOf os) l b Y) (hX : X.length < 2 ^ 38) (hY : Y.length < 2 ^ 38) (hp : Hp (tabsOf os) A l)
    (H : ∀ A', Hp (tabsOf os) A' l → Q (.bool (decide (X = Y))) A') : Goes (XX os) 1 10 [.slice a X.length c, .slice b Y.length c'] A Q := by
  refine t10 (d := 0) ((a, X.length, c), (b, Y.length, c'), ()) fun k hk => ?_
  simp only [f10, f10c0, eqB_nat]
  by_cases hl : X.length = Y.length
  rotate_left
  · have : X ≠ Y := fun e => hl (by rw [e])
    rw [decide_eq_false this] at H
    exact ev_t (by rw [decide_eq_false hl]; rfl) (ev_pure (H A hp))
  refine ev_f (by rw [decide_eq_true hl]; rfl) ?_
  refine ev_bind (ev_LL (fun μ st A' => ∃ i, μ = X.length - i ∧ i ≤ X.length ∧ st = (((i : Nat) : Int), ()) ∧ Hp (tabsOf os) A' l ∧ X.take i = Y.take i) (m := X.length) ⟨0, rfl, by omega, rfl, hp, by simp⟩ (by omega) ?_)
  rintro μ st A2 ⟨i, rfl, hi, rfl, hp, heq⟩
  simp only [ltB_nat, inB_nat, Int.toNat_natCast]
  refine ev_ite (fun h => ?_) fun h => ?_
  · rw [decide_eq_true_eq] at h
    have hY : i < Y.length := by omega
    refine ev_guard (decide_eq_true h) ?_
    refine ev_see hp h1 h ?_
    refine ev_guard (decide_eq_true hY) ?_
    refine ev_see hp h2 hY ?_
    rw [BA_seq]
    by_cases hv : X[i] = Y[i]
    · refine ev_f (by rw [decide_eq_true hv]; rfl) (ev_pure ⟨X.length - (i + 1), by omega, i + 1, rfl, by omega, by rw [addW_1 (by omega)], hp, ?_⟩)
      rw [List.take_add_one, List.take_add_one, List.getElem?_eq_getElem h, List.getElem?_eq_getElem hY, heq, hv]
    · have : X ≠ Y := fun e => hv (by subst e; rfl)
      rw [decide_eq_false this] at H
      exact ev_t (by rw [decide_eq_false hv]; rfl) (ev_pure (ev_pure (H A2 hp)))
  · rw [decide_eq_false_iff_not] at h
    rw [List.take_of_length_le (show X.length ≤ i by omega), List.take_of_length_le (show Y.length ≤ i by omega)] at heq
    rw [decide_eq_true heq] at H
    exact ev_pure (ev_pure (H A2 hp))
end
end Go.Proofs.YtidadbppnmnfmaaGreatDoor.pa
