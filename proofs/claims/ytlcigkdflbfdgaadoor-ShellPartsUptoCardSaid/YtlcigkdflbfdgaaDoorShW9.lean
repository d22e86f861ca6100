/-
  Walks: ShellParts.
-/
import Derived.Test.YtlcigkdflbfdgaaDoorShW8
namespace Go.Proofs.YtlcigkdflbfdgaaDoor.sh
open Go Go.Eng Go.Sh
section
variable {os : List (Nat × AObj)} {A : AW} {Q : Value → AW → Prop} {l : List Thing}
theorem inside_len : ∀ b : List UInt8, b.length ≤ (inside b).length
  | [] => by simp
  | c :: t => by
    have h := rune_len (l := c :: t) (by simp)
    have hp := rune_pos (c :: t)
    have ih := inside_len ((c :: t).drop (rune (c :: t)).2)
    rw [inside_step, List.length_append]
    rw [List.length_drop] at ih
    split
    · rename_i ho
      have := odd_one ho
      simp only [List.length_cons, List.length_nil] at *
      omega
    · split
      · rename_i h12
        have := (rune_small (c := c) (t := t) (by omega)).2
        simp only [List.length_cons, List.length_nil] at *
        omega
      · rw [List.length_take]
        omega
termination_by b => b.length
decreasing_by
  have := rune_pos (c :: t)
  simp only [List.length_drop, List.length_cons]
  omega
theorem inside_le : ∀ b : List UInt8, (inside b).length ≤ 4 * b.length
  | [] => by simp [inside_nil]
  | c :: t => by
    have h := rune_len (l := c :: t) (by simp)
    have hp := rune_pos (c :: t)
    have ih := inside_le ((c :: t).drop (rune (c :: t)).2)
    rw [inside_step, List.length_append]
    rw [List.length_drop] at ih
    split
    · simp only [List.length_cons, List.length_nil] at *
      omega
    · split
      · simp only [List.length_cons, List.length_nil] at *
        omega
      · rw [List.length_take]
        omega
termination_by b => b.length
decreasing_by
  have := rune_pos (c :: t)
  simp only [List.length_drop, List.length_cons]
  omega
theorem word_le (b : List UInt8) : (word b).length ≤ 4 * b.length + 2 := by
  rw [word_len]
  have := inside_le b
  omega
theorem partsG (s t r : List UInt8) (hs : s.length < 2 ^ 33) (ht : t.length < 2 ^ 33) (hr0 : r.length < 2 ^ 33) (hr : Runes os) :
    Gives (tabsOf os) (XX os) 6 4 [.string (BA s), .string (BA t), .string (BA r)] (.bool true) := by
  intro A l Q hp H
  refine t4 (d := 5) (BA s, BA t, BA r, ()) fun n hn => ?_
  unfold f4
  refine ((quoteGG s (by omega) hr).mono (show 4 ≤ 5 by decide)).use hn hp rfl fun A1 hp => ?_
  refine ((quoteGG t (by omega) hr).mono (show 4 ≤ 5 by decide)).use hn hp rfl fun A2 hp => ?_
  have hw : ∀ b : List UInt8, b.length < 2 ^ 33 → (word b).length < 2 ^ 35 := fun b hb => by have := word_le b; omega
  have hws := hw s hs
  have hwt := hw t ht
  simp only [BA_size, BA_append]
  refine ev_guard (Nat.ble_eq_true_of_le (by omega)) ?_
  refine (unquoteG (word s ++ r) (by rw [List.length_append]; omega) hr).use hn hp (unqV_prj _) fun A3 hp => ?_
  rw [unqG_word]
  have same : ∀ x : ByteArray, seq x x = true := fun x => by unfold seq; simp
  unfold f4c2
  simp only [M.join, unqT, BA_seq, BA_size, Bool.not_true]
  refine ev_f rfl (ev_f (by simp) (ev_f (by simp) (ev_f ?_ ?_)))
  · have : (word s = word t) ↔ (s = t) := word_inj
    by_cases h : s = t
    · subst h; simp
    · rw [decide_eq_false h, decide_eq_false fun e => h (this.1 e)]; rfl
  have hclean : ∀ A4, Hp (tabsOf os) A4 l → Ev (f4c1 (XX os n) LL (BA s, BA t, BA r, ()) (BA (word s))) A4 Q := fun A4 hp => by
    unfold f4c1
    refine ev_bind (ev_LL (fun m st A' => ∃ i, i ≤ (word s).length ∧ m = (word s).length - i ∧ st = (((i : Nat) : Int), ()) ∧ Hp (tabsOf os) A' l) (m := (word s).length) ⟨0, by omega, rfl, rfl, hp⟩ (by omega) ?_)
    rintro m st A5 ⟨i, hi, rfl, rfl, hp⟩
    simp only [ltB_nat, BA_size, inB_nat, M.join]
    refine ev_ite (fun hlt => ?_) fun hge => ?_
    · rw [decide_eq_true_eq] at hlt
      obtain ⟨c, t', hc⟩ := drop_cons hlt
      have hmem : c ∈ word s := List.mem_of_mem_drop (i := i) (by rw [hc]; simp)
      have hcl := word_clean s c hmem
      unfold clean at hcl
      refine ev_guard (decide_eq_true hlt) ?_
      rw [byte_drop hc, ltB_lit]
      refine ev_f (decide_eq_false (by show ¬ c.toNat < 32; omega)) (ev_guard (decide_eq_true hlt) ?_)
      rw [eqB_lit]
      refine ev_f (decide_eq_false (by show ¬ c.toNat = 127; omega)) (ev_pure ⟨(word s).length - (i + 1), by omega, i + 1, by omega, rfl, ?_, hp⟩)
      rw [addW_1 (by omega)]
    · refine ev_pure ?_
      simp only [Round, M.sum]
      refine (unquoteG t (by omega) hr).use hn hp (unqV_prj _) fun A6 hp => ?_
      have wk : ∀ A7, Hp (tabsOf os) A7 l → ∀ {K : Bool → M Value}, (∀ b, K b = M.pure (.bool b)) → Ev (M.callS (.one (.cell .bool)) (XX os n (.call 11 [])) K) A7 Q := fun A7 h7 K hK =>
        (wakesG h7 ⟨true, rfl, by rw [hK]; exact ev_pure (H A7 h7)⟩).mono (show 1 ≤ 5 by decide) |>.use hn
      cases hu : unqG t with
      | none =>
        unfold f4c0
        simp only [unqT, M.join]
        exact ev_t rfl (ev_t (same _) (ev_t (same _) (wk A6 hp fun b => rfl)))
      | some p =>
        obtain ⟨b, rest⟩ := p
        have hback := unqG_back hu
        have hbl : b.length ≤ t.length := by
          have := congrArg List.length hback
          rw [List.length_append, word_len] at this
          have := inside_len b
          omega
        unfold f4c0
        simp only [unqT, M.join]
        refine ev_f rfl ?_
        refine ((quoteGG b (by omega) hr).mono (show 4 ≤ 5 by decide)).use hn hp rfl fun A7 hp => ?_
        have hwb := hw b (by omega)
        have hrl : rest.length ≤ t.length := by
          have := congrArg List.length hback
          rw [List.length_append] at this
          omega
        simp only [BA_size, BA_append]
        refine ev_guard (Nat.ble_eq_true_of_le (by omega)) (ev_t ?_ (wk A7 hp fun b => rfl))
        rw [BA_seq, hback]
        simp
  by_cases hst : s = t
  · exact ev_f (by rw [decide_eq_true hst]; rfl) (ev_f rfl (hclean A3 hp))
  · refine ev_t (by rw [decide_eq_false hst]; rfl) ?_
    rw [leB_nat]
    by_cases hle : (word s).length ≤ (word t).length
    · refine ev_t (decide_eq_true hle) (ev_guard (by rw [upB_nat]; exact decide_eq_true hle) (ev_f ?_ (hclean A3 hp)))
      rw [Int.toNat_natCast, BA_extract, List.drop_zero, BA_seq]
      exact decide_eq_false (word_apart hst)
    · exact ev_f (decide_eq_false hle) (ev_f rfl (hclean A3 hp))
end
end Go.Proofs.YtlcigkdflbfdgaaDoor.sh
