/-
  Walks: PathBack.
-/
import Derived.Test.YtidadbppnmnfmaaGreatDoorPaP4
namespace Go.Proofs.YtidadbppnmnfmaaGreatDoor.pa
open Go Go.Eng Go.Sh
section
variable {os : List (Nat × AObj)} {A : AW} {Q : Value → AW → Prop} {l : List Thing}
theorem sum_step {w k : Nat} (h : k < 2 ^ 38) : (if (1048576 : Int) < addW .i64 (addW .i64 ((min w 1048576 : Nat) : Int) 1) (k : Int) then (1048576 : Int) else addW .i64 (addW .i64 ((min w 1048576 : Nat) : Int) 1) (k : Int)) = ((min (w + (1 + k)) 1048576 : Nat) : Int) := by
  rw [addW_1 (by omega), addW_i64 (by omega)]
  split <;> omega
set_option maxHeartbeats 1000000 in
theorem backG (p : List UInt8) {a : Option Addr} {c : Nat} {L : List (List UInt8)} (hs : ∀ l, Sees (tabsOf os) l a L) (hW : (slashed L).length < 2 ^ 38) (hL : L.length < 2 ^ 38) (hr : Runes os) :
    Gives (tabsOf os) (XX os) 7 4 [.string (BA p), .slice a L.length c] (.bool true) := by
  intro A l Q hp H
  refine t4 (d := 6) (BA p, (a, L.length, c), ()) fun n hn => ?_
  simp only [f4, f4c4, f4c3, f4c2, f4c1, f4c0]
  refine ((splitG p hr hp fun A1 sx hp => ⟨(sx, _, ()), rfl, ?_⟩).mono (show 5 ≤ 6 by decide)).use hn
  simp only
  refine ev_join (fun _ A' => Hp (tabsOf os) A' l) ?_ fun go2 hgo2 => ?_
  rotate_left
  · obtain ⟨hx1, hx2⟩ := txts_len hp
    by_cases h0 : (splitV validG p).2 = 0
    · have e := split_join h0
      have hw := ((join_ok (splitV validG p).1 validG).1.1 (by rw [e])).2
      have hxl := splitV_len validG p
      generalize (splitV validG p).1 = X at *
      refine ev_t (by rw [h0]; rfl) ?_
      rw [hx1]
      refine ((joinG (Sees.vec 0 rfl) (by omega) (by omega) hr hp fun A2 hp => ⟨_, rfl, ?_⟩).mono (show 5 ≤ 6 by decide)).use hn
      rw [e]
      refine ev_join (fun j A' => Hp (tabsOf os) A' l ∧ j = (false, ())) ?_ fun go hgo => ?_
      rotate_left
      · refine ev_f rfl ?_
        refine hgo _ A2 ⟨hp.tail, ?_⟩
        simp only [BA_seq, decide_true]
        rfl
      rintro _ A3 ⟨hp, rfl⟩
      exact ev_f rfl (hgo2 _ A3 hp)
    · obtain ⟨e1, e2⟩ := split_bad h0
      refine ev_f (by rw [eqB_lit]; exact decide_eq_false h0) ?_
      rw [e1] at hx1
      refine ev_join (fun j A' => Hp (tabsOf os) A' l ∧ j = (false, ())) ?_ fun go hgo => ?_
      rotate_left
      · rw [hx1]
        refine ev_f rfl ?_
        rcases e2 with e2 | e2
        · rw [e2]
          exact ev_f rfl (hgo _ A1 ⟨hp.tail, rfl⟩)
        · rw [e2]
          exact ev_t rfl (hgo _ A1 ⟨hp.tail, rfl⟩)
      rintro _ A3 ⟨hp, rfl⟩
      exact ev_f rfl (hgo2 _ A3 hp)
  rintro _ A1 hp
  refine ((joinG (hs l) hW hL hr hp fun A3 hp => ⟨_, rfl, ?_⟩).mono (show 5 ≤ 6 by decide)).use hn
  have hx : ∀ x ∈ L, x.length < 2 ^ 38 := fun x hx => Nat.lt_of_le_of_lt (len_slashed x L hx) hW
  refine ev_bind (ev_LL (fun μ st A' => ∃ i, μ = L.length - i ∧ i ≤ L.length ∧ st = (((min (slashed (L.take i)).length 1048576 : Nat) : Int), (L.take i).all validG, ((i : Nat) : Int), ()) ∧ Hp (tabsOf os) A' l) (m := L.length) ⟨0, rfl, by omega, rfl, hp⟩ (by omega) ?_)
  rintro m st A4 ⟨i, rfl, hi, rfl, hp⟩
  simp only [ltB_nat, inB_nat, Int.toNat_natCast]
  refine ev_ite (fun h => ?_) fun h => ?_
  · rw [decide_eq_true_eq] at h
    have hxi := hx L[i] (List.getElem_mem h)
    have hw : (slashed (L.take (i + 1))).length = (slashed (L.take i)).length + (1 + L[i].length) := by
      rw [List.take_add_one, slashed_append, List.getElem?_eq_getElem h]
      simp [slashed]; omega
    refine ev_join (fun j A' => Hp (tabsOf os) A' l ∧ j = ((L.take (i + 1)).all validG, ())) ?_ fun go hgo => ?_
    rotate_left
    · have hall : (L.take (i + 1)).all validG = ((L.take i).all validG && validG L[i]) := by
        rw [List.take_add_one, List.all_append, List.getElem?_eq_getElem h]
        simp
      refine ev_ite (fun h1 => ?_) fun h1 => ?_
      · refine ev_guard (decide_eq_true h) (ev_see hp (hs l) h ?_)
        refine ((validGG L[i] hxi hr).mono (show 4 ≤ 6 by decide)).use hn hp rfl fun A5 hp => ?_
        exact hgo _ A5 ⟨hp, by rw [hall, h1]; rfl⟩
      · exact hgo _ A4 ⟨hp, by rw [hall, h1]; rfl⟩
    rintro _ A5 ⟨hp, rfl⟩
    refine ev_guard (decide_eq_true h) (ev_see hp (hs l) h ?_)
    rw [BA_size, sum_step hxi, ← hw, addW_1 (by omega)]
    exact ev_pure ⟨L.length - (i + 1), by omega, i + 1, rfl, by omega, rfl, hp⟩
  rw [decide_eq_false_iff_not] at h
  have ei : L.take i = L := List.take_of_length_le (by omega)
  rw [ei]
  refine ev_pure ?_
  simp only [Round, M.sum]
  obtain ⟨k1, k2, k3⟩ := join_ok L validG
  have k4 := join_split (l := L)
  generalize joinV validG L = J at *
  obtain ⟨J1, J2⟩ := J
  simp only at k1 k2 k3 k4 ⊢
  refine ev_join (fun j A' => Hp (tabsOf os) A' l ∧ j = (false, ())) ?_ fun go hgo => ?_
  rotate_left
  · rw [leB_lit, eqB_lit, eqB_lit]
    refine ev_ite (fun h1 => ?_) fun h1 => ?_
    · have e1 : decide (J2 = 0) = decide (min (slashed L).length 1048576 ≤ 256) := by
        apply decide_eq_decide.2
        rw [k1]
        constructor
        · rintro ⟨_, q⟩; omega
        · intro q; exact ⟨h1, by omega⟩
      have e2 : ¬ J2 = 31 := fun e => by rw [k2.1 e] at h1; cases h1
      refine ev_f (by rw [e1]; simp) (hgo _ A4 ⟨hp, ?_⟩)
      rw [h1, decide_eq_false e2]; rfl
    · have e2 : J2 = 31 := k2.2 h1
      subst e2
      refine ev_f rfl (hgo _ A4 ⟨hp, ?_⟩)
      rw [h1]; rfl
  rintro _ A5 ⟨hp, rfl⟩
  refine ev_f rfl ?_
  rw [eqB_lit]
  by_cases h0 : J2 = 0
  rotate_left
  · refine ev_t (by rw [decide_eq_false h0]; rfl) ?_
    rw [k3 h0]
    refine ev_join (fun j A' => Hp (tabsOf os) A' l ∧ j = (true, ())) ?_ fun go hgo => ?_
    rotate_left
    · rw [show st0 = BA [] from rfl]
      refine ev_t (by rw [BA_seq]; rfl) ?_
      exact ((wakesG hp ⟨true, rfl, hgo _ A5 ⟨hp, rfl⟩⟩).mono (show 1 ≤ 6 by decide)).use hn
    rintro _ A6 ⟨hp, rfl⟩
    exact ev_pure (H A6 hp)
  refine ev_f (by rw [decide_eq_true h0]; rfl) ?_
  obtain ⟨k5, k6⟩ := k4 h0
  have k7 := (k1.1 h0).2
  refine ((splitG J1 hr hp fun A6 sx hp => ⟨(sx, _, ()), rfl, ?_⟩).mono (show 5 ≤ 6 by decide)).use hn
  rw [k5] at hp ⊢
  obtain ⟨hx1, hx2⟩ := txts_len hp
  simp only at hx1 hx2 hp ⊢
  refine ev_join (fun j A' => Hp (tabsOf os) A' l ∧ j = (true, ())) ?_ fun go hgo => ?_
  rotate_left
  · refine ev_t rfl ?_
    rw [hx1]
    refine ((sameG (X := L) (Y := L) (Sees.vec 0 rfl) (hs _) hL hL hp fun A7 hp => ⟨_, rfl, ?_⟩).mono (show 1 ≤ 6 by decide)).use hn
    refine ev_t (decide_eq_true rfl) ?_
    have e9 : (if (1 : Int) < ((min (slashed L).length 1048576 : Nat) : Int) then ((min (slashed L).length 1048576 : Nat) : Int) else 1) = ((J1.length : Nat) : Int) := by
      split <;> omega
    rw [BA_size, e9]
    refine ev_t (by rw [eqB_nat]; exact decide_eq_true rfl) ?_
    exact ((wakesG hp.tail ⟨true, rfl, hgo _ A7 ⟨hp.tail, rfl⟩⟩).mono (show 1 ≤ 6 by decide)).use hn
  rintro _ A7 ⟨hp, rfl⟩
  exact ev_pure (H A7 hp)
end
end Go.Proofs.YtidadbppnmnfmaaGreatDoor.pa
