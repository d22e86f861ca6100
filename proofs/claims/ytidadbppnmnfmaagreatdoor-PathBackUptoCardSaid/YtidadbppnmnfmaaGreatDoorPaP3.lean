/-
  Walks: PathOrder.
-/
import Derived.Test.YtidadbppnmnfmaaGreatDoorPaP2
namespace Go.Proofs.YtidadbppnmnfmaaGreatDoor.pa
open Go Go.Eng Go.Sh
section
variable {os : List (Nat × AObj)} {A : AW} {Q : Value → AW → Prop} {l : List Thing}
theorem wakesG (hp : Hp (tabsOf os) A l) (H : Q (.bool true) A) : Goes (XX os) 1 13 [] A Q := by
  intro n hn
  cases n with
  | zero => omega
  | succ n =>
    refine ⟨.bool true, A, ?_, H⟩
    show iterU _ _ _ _ (n + 1) (.call _ _) A = _
    simp only [iterU]
    rw [sumTabs_at fun h r p e => (hp.tab h r p (tabs_low e)).1]
theorem orderG (a b c : List UInt8) (hr : Runes os) : Gives (tabsOf os) (XX os) 7 5 [.string (BA a), .string (BA b), .string (BA c)] (.bool true) := by
  intro A l Q hp H
  refine t5 (d := 6) (BA a, BA b, BA c, ()) fun n hn => ?_
  simp only [f5, f5c3, f5c2, f5c1, f5c0]
  refine (underGG a b hr).use hn hp rfl fun A1 hp => ?_
  refine (underGG b c hr).use hn hp rfl fun A2 hp => ?_
  refine (underGG a c hr).use hn hp rfl fun A3 hp => ?_
  refine ev_join (fun j A' => Hp (tabsOf os) A' l ∧ j = (false, ())) ?_ fun go4 hgo4 => ?_
  rotate_left
  · refine (underGG a a hr).use hn hp rfl fun A4 hp => ?_
    refine ev_f (under_self _ _) ?_
    have fin : ∀ A5, Hp (tabsOf os) A5 l → Ev (M.ite (underV validG a b) (M.ite (underV validG b c) (go4 (!underV validG a c, ())) (go4 (false, ()))) (go4 (false, ()))) A5 Q := fun A5 h5 => by
      refine ev_ite (fun h1 => ?_) fun _ => hgo4 _ A5 ⟨h5, rfl⟩
      refine ev_ite (fun h2 => ?_) fun _ => hgo4 _ A5 ⟨h5, rfl⟩
      exact hgo4 _ A5 ⟨h5, by rw [under_trans h1 h2]; rfl⟩
    refine ev_ite (fun h1 => ?_) fun h1 => ?_
    · refine (underGG b a hr).use hn hp rfl fun A5 hp => ?_
      refine ev_f (under_anti h1) ?_
      exact fin A5 hp
    · exact fin A4 hp
  rintro _ A4 ⟨hp, rfl⟩
  refine ev_f rfl ?_
  refine ((splitG a hr hp fun A5 sx hp => ⟨(sx, _, ()), rfl, ?_⟩).mono (show 5 ≤ 6 by decide)).use hn
  refine ((splitG b hr hp fun A6 sy hp => ⟨(sy, _, ()), rfl, ?_⟩).mono (show 5 ≤ 6 by decide)).use hn
  replace hp := hp.tail.tail
  simp only
  refine ev_join (fun j A' => Hp (tabsOf os) A' l ∧ j = (false, ())) ?_ fun go8 hgo8 => ?_
  rotate_left
  · refine ev_ite (fun h1 => ?_) fun _ => hgo8 _ A6 ⟨hp, rfl⟩
    obtain ⟨k1, k2, _, _⟩ := under_iff.1 h1
    obtain ⟨q1, q2, _⟩ := under_bytes h1
    simp only [BA_size, leB_nat]
    rw [eqB_lit, eqB_lit]
    refine ev_f (by rw [k1]; rfl) (ev_f (by rw [k2]; rfl) (ev_f (decide_eq_false (by omega)) (ev_guard (by rw [upB_nat]; exact decide_eq_true (by omega)) ?_)))
    rw [Int.toNat_natCast, BA_extract, List.drop_zero, BA_seq, decide_eq_true q2]
    exact hgo8 _ A6 ⟨hp, rfl⟩
  rintro _ A7 ⟨hp, rfl⟩
  refine ev_f rfl ?_
  refine ev_join (fun j A' => Hp (tabsOf os) A' l ∧ j = (false, ())) ?_ fun go10 hgo10 => ?_
  rotate_left
  · rw [eqB_lit, eqB_lit]
    refine ev_ite (fun h1 => ?_) fun _ => hgo10 _ A7 ⟨hp, rfl⟩
    refine ev_ite (fun h2 => ?_) fun _ => hgo10 _ A7 ⟨hp, rfl⟩
    rw [decide_eq_true_eq] at h1 h2
    rw [show st1 = BA [47] from rfl, BA_seq]
    refine ev_ite (fun h3 => ?_) fun _ => hgo10 _ A7 ⟨hp, rfl⟩
    have h3 : a ≠ [47] := by simpa using h3
    simp only [BA_size, ltB_nat, upB_nat, inB_nat, Int.toNat_natCast, BA_extract, List.drop_zero, BA_seq]
    have no : (a.length < b.length ∧ b.take a.length = a → False) → Ev (go10 ((!(underV validG a b == false)), ())) A7 Q := fun hno => by
      refine hgo10 _ A7 ⟨hp, ?_⟩
      cases hu : underV validG a b with
      | false => rfl
      | true => obtain ⟨q1, q2, _⟩ := under_bytes hu; exact (hno ⟨q1, q2⟩).elim
    refine ev_ite (fun h4 => ?_) fun h4 => ?_
    rotate_left
    · rw [decide_eq_false_iff_not] at h4
      exact no fun q => h4 q.1
    rw [decide_eq_true_eq] at h4
    refine ev_guard (decide_eq_true (by omega)) (ev_ite (fun h5 => ?_) fun h5 => ?_)
    rotate_left
    · rw [decide_eq_false_iff_not] at h5
      exact no fun q => h5 q.2
    rw [decide_eq_true_eq] at h5
    refine ev_guard (decide_eq_true h4) ?_
    obtain ⟨d, t, hd⟩ := drop_cons h4
    have hb : b = a ++ d :: t := by
      conv => lhs; rw [← List.take_append_drop a.length b]
      rw [h5, hd]
    have hby : byteAt (BA b) (a.length : Int) = (d.toNat : Int) := by
      rw [at_byteAt]
      have : at' b a.length = at' (b.drop a.length) 0 := by unfold at'; rw [List.getElem?_drop, Nat.add_zero]
      rw [this, hd]; rfl
    rw [hby, eqB_lit]
    refine hgo10 _ A7 ⟨hp, ?_⟩
    by_cases h47 : d = 47
    · subst h47
      rw [hb] at h2 ⊢
      rw [under_of h1 h2 h3]
      rfl
    · have : underV validG a b = false := by
        cases hu : underV validG a b with
        | false => rfl
        | true =>
          obtain ⟨_, _, q3⟩ := under_bytes hu
          obtain ⟨t', ht'⟩ := q3 h3
          rw [hb] at ht'
          exact absurd (List.cons.inj (List.append_cancel_left ht')).1 h47
      rw [this, decide_eq_false (show ¬ d.toNat = 47 from fun e => h47 (UInt8.toNat_inj.1 e))]
      rfl
  rintro _ A8 ⟨hp, rfl⟩
  refine ev_f rfl ?_
  refine ev_join (fun j A' => Hp (tabsOf os) A' l ∧ j = (false, ())) ?_ fun go12 hgo12 => ?_
  rotate_left
  · rw [eqB_lit]
    refine ev_ite (fun h1 => ?_) fun _ => hgo12 _ A8 ⟨hp, rfl⟩
    rw [decide_eq_true_eq] at h1
    rw [show st1 = BA [47] from rfl]
    refine (underGG [47] a hr).use hn hp rfl fun A9 hp => ?_
    refine hgo12 _ A9 ⟨hp, ?_⟩
    rw [under_root h1, BA_seq]
    by_cases h : a = [47] <;> simp [h]
  rintro _ A9 ⟨hp, rfl⟩
  refine ev_f rfl ?_
  exact ((wakesG hp ⟨true, rfl, ev_pure (H A9 hp)⟩).mono (show 1 ≤ 6 by decide)).use hn
end
end Go.Proofs.YtidadbppnmnfmaaGreatDoor.pa
