/-
 Walks: WC, WD, WE, WF, WG.
-/
import Derived.Test.YtlcigkdflbfdgaaGreatDoorSgW7
import Derived.Test.YtlcigkdflbfdgaaGreatDoorPlain
import Derived.KernelRfl
namespace Go.Proofs.YtlcigkdflbfdgaaGreatDoor.sg
set_option linter.unusedVariables false
open Go Go.Eng Go.Sh
section
variable {os : List (Nat × AObj)} {A : AW} {Q : Value → AW → Prop} {l : List Thing}
def cutV (c : UInt8) (s : List UInt8) : List UInt8 × List UInt8 × Bool := match cutAt c s with
 | some p => (p.1, p.2, true)
 | none => (s, [], false)
theorem byteOne (c : UInt8) : byteAt (BA [c]) 0 = ((c.toNat : Nat) : Int) := by
 rw [at_byteAt0]; rfl
theorem index1G (s : List UInt8) (c : UInt8) : Gives (tabsOf os) (XX os) 2 83 [.string (BA s), .string (BA [c])] (.int .i64 (Lib.indexByte s c)) := by
 intro A l Q hp H
 refine t83 (d := 1) (BA s, BA [c], ()) fun n hn => ?_
 simp only [f83, f83c4, f83c3, f83c2, f83c1, f83c0]
 refine ev_join (fun j A' => Hp (tabsOf os) A' l ∧ j = (decide ([c] = s), ())) ?_ fun go hgo => ?_
 rotate_left
 ·refine ev_f rfl ?_
  rw [BA_seq]
  exact hgo _ A ⟨hp, rfl⟩
 rintro _ A1 ⟨hp, rfl⟩
 refine ev_ite (fun h => ?_) fun h => ?_
 ·simp only at h
  rw [decide_eq_true_eq] at h
  have : Lib.indexByte s c = 0 := by
   rw [← h, Lib.indexByte, if_pos (beq_self_eq_true c)]
  rw [this] at H
  exact ev_pure (H A1 hp)
 refine ev_t rfl (ev_guard rfl ?_)
 rw [byteOne]
 exact (indexL s c).use hn hp rfl fun A2 hp => ev_pure (H A2 hp)
theorem cut1L (s : List UInt8) (c : UInt8) (hs : s.length < 2 ^ 38) : Gives (tabsOf os) (XX os) 3 72 [.string (BA s), .string (BA [c])] (.tuple ⟨[.string (BA (cutV c s).1), .string (BA (cutV c s).2.1), .bool (cutV c s).2.2]⟩) := by
 intro A l Q hp H
 refine t72 (d := 2) (BA s, BA [c], ()) fun n hn => ?_
 simp only [f72]
 refine (index1G s c).use hn hp rfl fun A1 hp => ?_
 unfold cutV at H
 have hi := cutAt_index c s
 cases hc : cutAt c s with
 | none =>
  rw [hc] at hi H
  simp only at hi
  rw [hi]
  refine ev_f rfl ?_
  rw [show st0 = BA [] from rfl]
  exact ev_pure (H A1 hp)
 | some p =>
  rw [hc] at hi H
  simp only at hi
  have hl := cutAt_len hc
  have he := (cutAt_some hc).1
  rw [hi]
  refine ev_t (by rw [show (0 : Int) = ((0 : Nat) : Int) from rfl, leB_nat]; exact decide_eq_true (Nat.zero_le _)) ?_
  rw [show (((BA [c]).size : Nat) : Int) = 1 from rfl, addW_1 (by omega), upB_nat, upB_nat, BA_size]
  refine ev_guard (decide_eq_true (by omega)) (ev_guard (decide_eq_true (by omega)) ?_)
  rw [Int.toNat_natCast, Int.toNat_natCast, BA_till, BA_extract, List.drop_zero]
  have e1 : s.take p.1.length = p.1 := by rw [he, List.take_left]
  have e2 : s.drop (p.1.length + 1) = p.2 := by
   rw [he, ← List.drop_drop, List.drop_left]; rfl
  rw [e1, e2]
  exact ev_pure (H A1 hp)
theorem cut1G (s : List UInt8) (c : UInt8) (hs : s.length < 2 ^ 38) : Gives (tabsOf os) (XX os) 4 45 [.string (BA s), .string (BA [c])] (.tuple ⟨[.string (BA (cutV c s).1), .string (BA (cutV c s).2.1), .bool (cutV c s).2.2]⟩) := by
 intro A l Q hp H
 refine t45 (d := 3) (BA s, BA [c], ()) fun n hn => ?_
 simp only [f45]
 exact (cut1L s c hs).use hn hp rfl fun A1 hp => ev_pure (H A1 hp)
theorem countG (s : List UInt8) (c : UInt8) : Gives (tabsOf os) (XX os) 1 89 [.string (BA s), .string (BA [c])] (.int .i64 ((s.count c : Nat) : Int)) := by
 intro A l Q hp H
 refine t89 (d := 0) (BA s, BA [c], ()) fun n hn => ?_
 simp only [f89, f89c0]
 refine ev_f rfl (ev_t rfl (ev_guard rfl ?_))
 rw [byteOne, Int.toNat_natCast]
 have e : (c.toNat).toUInt8 = c := UInt8.ofNat_toNat
 rw [e]
 exact ev_pure (H A hp)
theorem setAt_mid (x y : Value) : ∀ (a b : List Value), setAt (a ++ y :: b) a.length [x] = a ++ x :: b
 | [], b => by
  show x :: setAt b 0 [] = x :: b
  cases b <;> rfl
 | z :: a, b => congrArg (z :: ·) (setAt_mid x y a b)
theorem repL_one (x : Value) : ∀ n : Nat, Row.repL [x] n = List.replicate n x
 | 0 => rfl
 | n + 1 => by
  rw [List.replicate_succ, ← repL_one x n]
  rfl
/-- Texts, as cells. -/
def strs (L : List (List UInt8)) : List Value := L.map fun x => .string (BA x)
theorem strs_append (a b : List (List UInt8)) : strs (a ++ b) = strs a ++ strs b := List.map_append
theorem strs_len (a : List (List UInt8)) : (strs a).length = a.length := List.length_map _
theorem split_rest {c : UInt8} {s : List UInt8} (h : 2 ≤ (splitAt' c s).length) : ∃ p, cutAt c s = some p ∧ splitAt' c s = p.1 :: splitAt' c p.2 := by
 cases hc : cutAt c s with
 | none =>
  rw [splitAt_none (cutAt_none hc)] at h
  simp at h
 | some p =>
  obtain ⟨h1, h2⟩ := cutAt_some hc
  exact ⟨p, rfl, by conv => lhs; rw [h1, splitAt_app _ h2]⟩
theorem split_end {c : UInt8} {s : List UInt8} (h : (splitAt' c s).length = 1) : splitAt' c s = [s] := by
 rw [splitAt_len] at h
 exact splitAt_none (List.count_eq_zero.1 (by omega))
theorem genSplitG (s : List UInt8) (c : UInt8) (hs : s.length < 2 ^ 38) (hp : Hp (tabsOf os) A l) (H : ∀ A' b e, Hp (tabsOf os) A' (.cells b (strs (splitAt' c s)) e false (0, 0) false :: l) → Q (.slice (some ⟨b, 0, none⟩) (splitAt' c s).length (splitAt' c s).length) A') :
  Goes (XX os) 4 81 [.string (BA s), .string (BA [c]), .int .i64 0, .int .i64 (-1)] A Q := by
 refine t81 (d := 3) (BA s, BA [c], 0, -1, ()) fun n hn => ?_
 simp only [f81, f81c2, f81c1, f81c0]
 refine ev_f rfl ?_
 rw [show st0 = BA [] from rfl, BA_seq]
 refine ev_f (decide_eq_false (by simp)) ?_
 have hN := splitAt_len c s
 have hcl : s.count c ≤ s.length := List.count_le_length
 obtain ⟨N, hNd⟩ : ∃ N, N = (splitAt' c s).length := ⟨_, rfl⟩
 rw [← hNd] at hN H
 refine ev_join (fun j A' => Hp (tabsOf os) A' l ∧ j = ((N : Int), ())) ?_ fun go hgo => ?_
 rotate_left
 ·refine ev_t rfl ?_
  refine ((countG s c).mono (show 1 ≤ 3 by decide)).use hn hp rfl fun A1 hp => ?_
  exact hgo _ A1 ⟨hp, by rw [addW_1 (by omega), hN]⟩
 rintro _ A1 ⟨hp, rfl⟩
 simp only [BA_size]
 have e7 : addW .i64 ((s.length : Nat) : Int) 1 = ((s.length + 1 : Nat) : Int) := addW_1 (by omega)
 simp only [e7, if_neg (show ¬ (((s.length + 1 : Nat) : Int) < (N : Int)) by omega), Int.toNat_natCast]
 refine ev_guard (by simp only [Bool.and_eq_true, decide_eq_true_eq]; omega) ?_
 refine ev_newR (L := List.replicate N (.string (BA []))) hp (by rw [Row.rep_list, repL_one]) fun b A2 hp => ?_
 have esub : subW .i64 (N : Int) 1 = ((N - 1 : Nat) : Int) := subW_i64 (b := 1) (by omega) (by omega)
 rw [esub]
 refine ev_bind (ev_LL (fun μ st A' => ∃ i rest P, μ = N - 1 - i ∧ i ≤ N - 1 ∧ st = (BA rest, ((i : Nat) : Int), ()) ∧ rest.length ≤ s.length ∧ P.length = i ∧ splitAt' c s = P ++ splitAt' c rest ∧ Hp (tabsOf os) A' (.cells b (strs P ++ List.replicate (N - i) (.string (BA []))) _ false (0, 0) false :: l)) (m := N - 1)
  ⟨0, s, [], rfl, by omega, rfl, Nat.le_refl _, rfl, rfl, hp⟩ (by omega) ?_)
 rintro μ st A3 ⟨i, rest, P, rfl, hi, rfl, hrl, hPl, hw, hp⟩
 have hlen : N = i + (splitAt' c rest).length := by rw [hNd, hw, List.length_append, hPl]
 have hset : ∀ x : List UInt8, setAt (strs P ++ List.replicate (N - i) (.string (BA []))) i [.string (BA x)] = strs (P ++ [x]) ++ List.replicate (N - (i + 1)) (.string (BA [])) := fun x => by
  obtain ⟨k, hk⟩ : ∃ k, N - i = k + 1 := ⟨N - i - 1, by have := splitAt_ne c rest; have := List.length_pos_iff.2 this; omega⟩
  have e1 : (strs P).length = i := by rw [strs_len, hPl]
  rw [hk, show N - (i + 1) = k by omega, List.replicate_succ, strs_append, ← e1, setAt_mid, List.append_assoc]
  rfl
 have hoff : ∀ k : Nat, (Addr.mk b 0 none).add (k * 1) = ⟨b, k, none⟩ := fun k => by rw [Nat.mul_one, add0]
 simp only [ltB_nat, Int.toNat_natCast, hoff]
 refine ev_ite (fun h => ?_) fun h => ?_
 ·rw [decide_eq_true_eq] at h
  obtain ⟨p, hc, hsp⟩ := split_rest (c := c) (s := rest) (by omega)
  have hcl2 := cutAt_len hc
  have hidx := cutAt_index c rest
  rw [hc] at hidx
  simp only at hidx
  refine Goes.use (d := 3) ?_ hn
  refine t90 (d := 2) (BA rest, BA [c], ()) fun n hn => ?_
  simp only [f90]
  refine (index1G rest c).use hn hp rfl fun A4 hp => ev_pure ⟨_, rfl, ?_⟩
  rw [hidx]
  refine ev_f (by rw [show (0 : Int) = ((0 : Nat) : Int) from rfl, ltB_nat]; exact decide_eq_false (by omega)) ?_
  have e0 : addW .i64 ((p.1.length : Nat) : Int) 0 = ((p.1.length : Nat) : Int) := addW_i64 (b := 0) (by omega)
  rw [show (([c].length : Nat) : Int) = 1 from rfl, addW_1 (by omega), e0, upB_nat, inB_nat, upB_nat, BA_size]
  refine ev_guard (decide_eq_true (by omega)) (ev_guard (decide_eq_true (by omega)) ?_)
  rw [Int.toNat_natCast, Int.toNat_natCast, BA_extract, List.drop_zero, BA_till]
  have he := (cutAt_some hc).1
  have e1 : rest.take p.1.length = p.1 := by rw [he, List.take_left]
  have e2 : rest.drop (p.1.length + 1) = p.2 := by
   rw [he, ← List.drop_drop, List.drop_left]; rfl
  rw [e1, e2]
  refine ev_store 0 hp rfl rfl (by simp only [List.length_append, strs_len, List.length_replicate, List.length_cons, List.length_nil]; omega) rfl fun A5 hp => ?_
  refine ev_guard (decide_eq_true (by omega)) (ev_pure ⟨N - 1 - (i + 1), by omega, i + 1, p.2, P ++ [p.1], rfl, by omega, by rw [addW_1 (by omega)], by omega, by rw [List.length_append, hPl]; rfl, by rw [hw, hsp]; simp, ?_⟩)
  rw [← hset]
  exact hp
 ·rw [decide_eq_false_iff_not] at h
  have hend := split_end (c := c) (s := rest) (by have := List.length_pos_iff.2 (splitAt_ne c rest); omega)
  refine ev_pure ?_
  simp only [Round, M.sum]
  rw [inB_nat]
  refine ev_guard (decide_eq_true (by omega)) ?_
  refine ev_store 0 hp rfl rfl (by simp only [List.length_append, strs_len, List.length_replicate, List.length_cons, List.length_nil]; omega) rfl fun A5 hp => ?_
  rw [addW_1 (by omega), upB_nat]
  refine ev_guard (decide_eq_true (by omega)) (ev_pure ?_)
  rw [Int.toNat_natCast]
  have hfin := hset rest
  rw [show N - (i + 1) = 0 by omega, List.replicate_zero, List.append_nil, ← hend, ← hw] at hfin
  have := H A5 b _ (by rw [← hfin]; exact hp)
  rw [show i + 1 = N by omega]
  exact this
end
end Go.Proofs.YtlcigkdflbfdgaaGreatDoor.sg
namespace Go.Proofs.YtlcigkdflbfdgaaGreatDoor.sg
set_option linter.unusedVariables false
open Go Go.Eng Go.Sh
section
variable {os : List (Nat × AObj)} {A : AW} {Q : Value → AW → Prop} {l : List Thing}
theorem splitGG (s : List UInt8) (c : UInt8) (hs : s.length < 2 ^ 38) (hp : Hp (tabsOf os) A l) (H : ∀ A' b e, Hp (tabsOf os) A' (.cells b (strs (splitAt' c s)) e false (0, 0) false :: l) → Q (.slice (some ⟨b, 0, none⟩) (splitAt' c s).length (splitAt' c s).length) A') :
  Goes (XX os) 5 69 [.string (BA s), .string (BA [c])] A Q := by
 refine t69 (d := 4) (BA s, BA [c], ()) fun n hn => ?_
 simp only [f69]
 exact (genSplitG s c hs hp fun A' b e hp => ⟨(some ⟨b, 0, none⟩, _, _), rfl, ev_pure (H A' b e hp)⟩).use hn
/-- The Kinds, each behind its Kind's place. -/
def kindsB : List UInt8 := st25.data.toList
def kindL : List (List UInt8) := splitAt' 32 kindsB
theorem kindL_len : kindL.length = 22 := by kernel_rfl
theorem kindsB_n : kindsB.length = 137 := by kernel_rfl
theorem kindsB_len : kindsB.length < 2 ^ 38 := by rw [kindsB_n]; decide
def nameV (k : Int) : List UInt8 := if k < 1 ∨ 22 ≤ k then [] else kindL.getD k.toNat []
theorem cell_txt {ρ : Type} {Q : ρ → AW → Prop} (j : Nat) {b : Nat} {e : TypeId} {g ish : Bool} {fz : Nat × Nat} {L : List (List UInt8)} {i : Nat} {K : ByteArray → M ρ} (hp : Hp (tabsOf os) A l) (hj : l[j]? = some (.cells b (strs L) e g fz ish)) (hi : i < L.length) (H : Ev (K (BA (L[i]'hi))) A Q) :
  Ev (M.load (.cell .string) 1 ((Addr.mk b 0 none).add (i * 1)) fun (x : ByteArray) => K x) A Q := by
 rw [Nat.mul_one, add0]
 refine ev_load j hp hj rfl rfl (by rw [strs_len]; exact hi) (x := BA (L[i]'hi)) ?_ H
 have : ((strs L).drop i).take 1 = [.string (BA (L[i]'hi))] := by
  apply List.ext_getElem?
  intro k
  rw [List.getElem?_take, List.getElem?_drop]
  cases k with
  | zero => simp [strs, List.getElem?_eq_getElem hi]
  | succ k => simp
 rw [this]
 rfl
theorem nameG (k : Int) : Gives (tabsOf os) (XX os) 6 38 [.int .i64 k] (.string (BA (nameV k))) := by
 intro A l Q hp H
 refine t38 (d := 5) (k, ()) fun n hn => ?_
 simp only [f38]
 rw [show st25 = BA kindsB from rfl, show st14 = BA [32] from rfl]
 refine (splitGG kindsB 32 kindsB_len hp fun A1 b e hp => ⟨(some ⟨b, 0, none⟩, _, _), rfl, ?_⟩).use hn
 rw [show splitAt' 32 kindsB = kindL from rfl, kindL_len] at *
 refine ev_join (fun j A' => Hp (tabsOf os) A' (.cells b (strs kindL) e false (0, 0) false :: l) ∧ j = (decide (k < 1 ∨ 22 ≤ k), ())) ?_ fun go hgo => ?_
 rotate_left
 ·rw [ltB_eq, leB_eq]
  refine ev_ite (fun h => ?_) fun h => ?_
  ·rw [decide_eq_true_eq] at h
   exact hgo _ A1 ⟨hp, by rw [decide_eq_true (.inl h)]⟩
  ·rw [decide_eq_false_iff_not] at h
   refine hgo _ A1 ⟨hp, ?_⟩
   congr 1
   apply decide_eq_decide.2
   exact ⟨fun e => .inr e, fun e => e.elim (fun e => absurd e h) id⟩
 rintro _ A2 ⟨hp, rfl⟩
 unfold nameV at H
 refine ev_ite (fun h => ?_) fun h => ?_
 ·simp only at h
  rw [decide_eq_true_eq] at h
  rw [if_pos h] at H
  rw [show st0 = BA [] from rfl]
  exact ev_pure (H A2 hp.tail)
 ·simp only at h
  rw [decide_eq_false_iff_not] at h
  rw [if_neg h] at H
  have hk : k.toNat < kindL.length := by rw [kindL_len]; omega
  refine ev_guard (by rw [inB_eq]; simp only [Bool.and_eq_true, decide_eq_true_eq]; omega) ?_
  show Ev (M.load _ _ _ _) A2 Q
  refine cell_txt 0 hp rfl hk (ev_pure ?_)
  have e : kindL.getD k.toNat [] = kindL[k.toNat] := by rw [List.getD_eq_getElem?_getD, List.getElem?_eq_getElem hk]; rfl
  rw [e] at H
  exact H A2 hp.tail
end
end Go.Proofs.YtlcigkdflbfdgaaGreatDoor.sg
namespace Go.Proofs.YtlcigkdflbfdgaaGreatDoor.sg
set_option linter.unusedVariables false
open Go Go.Eng Go.Sh
section
variable {os : List (Nat × AObj)} {A : AW} {Q : Value → AW → Prop} {l : List Thing}
end
end Go.Proofs.YtlcigkdflbfdgaaGreatDoor.sg
namespace Go.Proofs.YtlcigkdflbfdgaaGreatDoor.sg
set_option linter.unusedVariables false
open Go Go.Eng Go.Sh
section
variable {os : List (Nat × AObj)} {A : AW} {Q : Value → AW → Prop} {l : List Thing}
/-- A reader at b: what is still to be read; was a part none? -/
abbrev rdr (b : Nat) (e : TypeId) (g ish : Bool) (s : List UInt8) (bad : Bool) : Thing := .cells b [.string (BA s), .bool bad] e g (0, 0) ish
/-- The next part; what is left; was it a blank at the end? -/
def plainV (s : List UInt8) : List UInt8 × List UInt8 × Bool := ((cutV 32 s).1, (cutV 32 s).2.1, (cutV 32 s).2.2 && decide ((cutV 32 s).2.1 = []))
theorem plainG {b : Nat} {e : TypeId} {g ish : Bool} (s : List UInt8) (bad : Bool) (hs : s.length < 2 ^ 38) (hp : Hp (tabsOf os) A (rdr b e g ish s bad :: l))
  (H : ∀ A', Hp (tabsOf os) A' (rdr b e g ish (plainV s).2.1 (bad || (plainV s).2.2) :: l) → Q (.string (BA (plainV s).1)) A') : Goes (XX os) 5 65 [.pointer (some ⟨b, 0, none⟩)] A Q := by
 refine t65 (d := 4) (some ⟨b, 0, none⟩, ()) fun n hn => ?_
 simp only [f65, f65c0]
 refine ev_load 0 hp rfl rfl rfl (Nat.le_of_ble_eq_true rfl) rfl ?_
 rw [show st14 = BA [32] from rfl]
 refine (cut1G s 32 hs).use hn hp rfl fun A1 hp => ?_
 refine ev_store 0 hp rfl rfl (Nat.le_of_ble_eq_true rfl) rfl fun A2 hp => ?_
 unfold plainV at H
 generalize cutV 32 s = c at *
 obtain ⟨c1, c2, c3⟩ := c
 simp only at *
 refine ev_join (fun _ A' => Hp (tabsOf os) A' (rdr b e g ish c2 (bad || (c3 && decide (c2 = []))) :: l)) ?_ fun go hgo => ?_
 ·rintro _ A3 hp
  exact ev_pure (H A3 hp)
 refine ev_join (fun j A' => Hp (tabsOf os) A' (rdr b e g ish c2 bad :: l) ∧ j = (c3 && decide (c2 = []), ())) ?_ fun go2 hgo2 => ?_
 rotate_left
 ·rw [show st0 = BA [] from rfl, BA_seq]
  refine ev_ite (fun h => hgo2 _ A2 ⟨hp, by rw [h]; rfl⟩) fun h => hgo2 _ A2 ⟨hp, by rw [h]; rfl⟩
 rintro _ A3 ⟨hp, rfl⟩
 refine ev_ite (fun h => ?_) fun h => ?_
 ·have h : (c3 && decide (c2 = [])) = true := h
  refine ev_store 0 hp rfl rfl (Nat.le_of_ble_eq_true rfl) rfl fun A4 hp => hgo _ A4 ?_
  rw [h, Bool.or_true]
  exact hp
 ·have h : (c3 && decide (c2 = [])) = false := h
  refine hgo _ A3 ?_
  rw [h, Bool.or_false]
  exact hp
/-- The next word's text; what is left; was there none? -/
def wordV (s : List UInt8) : List UInt8 × List UInt8 × Bool := match unqG s with
 | none => ([], s, true)
 | some (t, r) => if r = [] then (t, [], false) else if at' r 0 = 32 ∧ 1 < r.length then (t, r.drop 1, false) else (t, s, true)
theorem wordG {b : Nat} {e : TypeId} {g ish : Bool} (s : List UInt8) (bad : Bool) (hs : s.length < 2 ^ 36) (hr : Runes os) (hp : Hp (tabsOf os) A (rdr b e g ish s bad :: l))
  (H : ∀ A', Hp (tabsOf os) A' (rdr b e g ish (wordV s).2.1 (bad || (wordV s).2.2) :: l) → Q (.string (BA (wordV s).1)) A') : Goes (XX os) 6 49 [.pointer (some ⟨b, 0, none⟩)] A Q := by
 refine t49 (d := 5) (some ⟨b, 0, none⟩, ()) fun n hn => ?_
 simp only [f49, f49c0]
 refine ev_load 0 hp rfl rfl rfl (Nat.le_of_ble_eq_true rfl) rfl ?_
 unfold wordV at H
 cases hu : unqG s with
 | none =>
  rw [hu] at H
  refine (unquoteG s hs hr).use hn hp (by rw [hu]; rfl) fun A1 hp => ?_
  refine ev_t rfl ?_
  refine ev_store 0 hp rfl rfl (Nat.le_of_ble_eq_true rfl) rfl fun A2 hp => ev_pure (H A2 ?_)
  rw [Bool.or_true]
  exact hp
 | some p =>
  obtain ⟨t, r⟩ := p
  rw [hu] at H
  refine (unquoteG s hs hr).use hn hp (by rw [hu]; rfl) fun A1 hp => ?_
  refine ev_f rfl ?_
  simp only at H
  rw [show st0 = BA [] from rfl, BA_seq]
  refine ev_ite (fun h => ?_) fun h => ?_
  ·have h : r = [] := of_decide_eq_true h
   rw [if_pos h] at H
   refine ev_store 0 hp rfl rfl (Nat.le_of_ble_eq_true rfl) rfl fun A2 hp => ev_pure (H A2 ?_)
   rw [Bool.or_false]
   exact hp
  have h : ¬ r = [] := of_decide_eq_false h
  rw [if_neg h] at H
  have hl : 0 < r.length := List.length_pos_iff.2 h
  refine ev_join (fun j A' => Hp (tabsOf os) A' (rdr b e g ish s bad :: l) ∧ j = (decide (at' r 0 = 32 ∧ 1 < r.length), ())) ?_ fun go hgo => ?_
  rotate_left
  ·simp only [BA_size]
   rw [inB_0, at_byteAt0, eqB_lit, ltB_lit']
   refine ev_guard (decide_eq_true hl) (ev_ite (fun h1 => hgo _ A1 ⟨hp, ?_⟩) fun h1 => hgo _ A1 ⟨hp, ?_⟩)
   ·have h1 := of_decide_eq_true h1
    congr 1
    exact decide_eq_decide.2 ⟨fun h2 => ⟨h1, h2⟩, fun h2 => h2.2⟩
   ·have h1 := of_decide_eq_false h1
    rw [decide_eq_false fun h2 => h1 h2.1]
  rintro _ A2 ⟨hp, rfl⟩
  refine ev_ite (fun h1 => ?_) fun h1 => ?_
  ·have h1 := of_decide_eq_true h1
   rw [if_pos h1] at H
   refine ev_guard (by rw [upB_1]; exact decide_eq_true (by show 1 ≤ r.length; omega)) ?_
   rw [show Int.toNat 1 = 1 from rfl, BA_from]
   refine ev_store 0 hp rfl rfl (Nat.le_of_ble_eq_true rfl) rfl fun A3 hp => ev_pure (H A3 ?_)
   rw [Bool.or_false]
   exact hp
  ·have h1 := of_decide_eq_false h1
   rw [if_neg h1] at H
   refine ev_store 0 hp rfl rfl (Nat.le_of_ble_eq_true rfl) rfl fun A3 hp => ev_pure (H A3 ?_)
   rw [Bool.or_true]
   exact hp
end
end Go.Proofs.YtlcigkdflbfdgaaGreatDoor.sg
namespace Go.Proofs.YtlcigkdflbfdgaaGreatDoor.sg
set_option linter.unusedVariables false
open Go Go.Eng Go.Sh
section
variable {os : List (Nat × AObj)} {A : AW} {Q : Value → AW → Prop} {l : List Thing}
def idxV (L : List (List UInt8)) (v : List UInt8) : Int := if v ∈ L then ((L.idxOf v : Nat) : Int) else -1
theorem idxV_at {L : List (List UInt8)} {v : List UInt8} {i : Nat} (h : i < L.length) (hi : L[i] = v) (hn : v ∉ L.take i) : idxV L v = (i : Int) := by
 have hL : L = L.take i ++ v :: L.drop (i + 1) := by
  rw [← hi, List.getElem_cons_drop, List.take_append_drop]
 have hm : v ∈ L := by rw [← hi]; exact List.getElem_mem h
 unfold idxV
 rw [if_pos hm]
 congr 1
 conv => lhs; rw [hL]
 rw [List.idxOf_append, if_neg hn, List.length_take, List.idxOf_cons_self]
 omega
theorem idxV_none {L : List (List UInt8)} {v : List UInt8} (h : v ∉ L) : idxV L v = -1 := if_neg h
theorem idxG (j : Nat) {b : Nat} {e : TypeId} {g ish : Bool} {fz : Nat × Nat} {L : List (List UInt8)} (v : List UInt8) (hL : L.length < 2 ^ 38) (hp : Hp (tabsOf os) A l) (hj : l[j]? = some (.cells b (strs L) e g fz ish))
  (H : ∀ A', Hp (tabsOf os) A' l → Q (.int .i64 (idxV L v)) A') : Goes (XX os) 1 73 [.slice (some ⟨b, 0, none⟩) L.length L.length, .string (BA v)] A Q := by
 refine t73 (d := 0) ((some ⟨b, 0, none⟩, L.length, L.length), BA v, ()) fun n hn => ?_
 simp only [f73, f73c0]
 refine ev_bind (ev_LL (fun μ st A' => ∃ i, μ = L.length - i ∧ i ≤ L.length ∧ st = (((i : Nat) : Int), ()) ∧ Hp (tabsOf os) A' l ∧ v ∉ L.take i) (m := L.length) ⟨0, rfl, by omega, rfl, hp, by simp⟩ (by omega) ?_)
 rintro μ st A1 ⟨i, rfl, hi, rfl, hp, hn⟩
 simp only [ltB_nat, inB_nat, Int.toNat_natCast]
 refine ev_ite (fun h => ?_) fun h => ?_
 ·rw [decide_eq_true_eq] at h
  refine ev_guard (decide_eq_true h) ?_
  show Ev (M.load _ _ _ _) A1 _
  refine cell_txt j hp hj h ?_
  rw [BA_seq]
  refine ev_ite (fun hv => ?_) fun hv => ?_
  ·have hv := of_decide_eq_true hv
   rw [idxV_at h hv.symm hn] at H
   exact ev_pure (ev_pure (H A1 hp))
  ·have hv := of_decide_eq_false hv
   refine ev_pure ⟨L.length - (i + 1), by omega, i + 1, rfl, by omega, by rw [addW_1 (by omega)], hp, ?_⟩
   rw [List.take_add_one, List.getElem?_eq_getElem h]
   simp only [Option.toList_some, List.mem_append, List.mem_singleton, not_or]
   exact ⟨hn, hv⟩
 ·rw [decide_eq_false_iff_not] at h
  rw [List.take_of_length_le (by omega)] at hn
  rw [idxV_none hn] at H
  exact ev_pure (ev_pure (H A1 hp))
/-- The Kind whose name comes first; what is left; was there none? -/
noncomputable def kindV (s : List UInt8) : Int × List UInt8 × Bool := (idxV kindL (plainV s).1, (plainV s).2.1, (plainV s).2.2 || decide (idxV kindL (plainV s).1 < 1))
theorem kindG {b : Nat} {e : TypeId} {g ish : Bool} (s : List UInt8) (bad : Bool) (hs : s.length < 2 ^ 38) (hp : Hp (tabsOf os) A (rdr b e g ish s bad :: l))
  (H : ∀ A', Hp (tabsOf os) A' (rdr b e g ish (kindV s).2.1 (bad || (kindV s).2.2) :: l) → Q (.int .i64 (kindV s).1) A') : Goes (XX os) 6 46 [.pointer (some ⟨b, 0, none⟩)] A Q := by
 refine t46 (d := 5) (some ⟨b, 0, none⟩, ()) fun n hn => ?_
 simp only [f46]
 rw [show st25 = BA kindsB from rfl, show st14 = BA [32] from rfl]
 refine (splitGG kindsB 32 kindsB_len hp fun A1 c e' hp => ⟨(some ⟨c, 0, none⟩, _, _), rfl, ?_⟩).use hn
 rw [show splitAt' 32 kindsB = kindL from rfl] at *
 have hp := hp.front 1 rfl
 refine (plainG s bad hs hp fun A2 hp => ⟨_, rfl, ?_⟩).use hn
 refine ((idxG 1 (plainV s).1 (by rw [kindL_len]; decide) hp rfl fun A3 hp => ⟨_, rfl, ?_⟩).mono (show 1 ≤ 5 by decide)).use hn
 have hp := hp.erase 1
 unfold kindV at H
 simp only at H
 generalize idxV kindL (plainV s).1 = k at *
 generalize plainV s = q at *
 obtain ⟨q1, q2, q3⟩ := q
 simp only at *
 refine ev_join (fun _ A' => Hp (tabsOf os) A' (rdr b e g ish q2 (bad || (q3 || decide (k < 1))) :: l)) ?_ fun go hgo => ?_
 ·rintro _ A4 hp
  exact ev_pure (H A4 hp)
 rw [ltB_eq]
 refine ev_ite (fun h => ?_) fun h => ?_
 ·rw [h] at hgo
  refine ev_store 0 hp rfl rfl (Nat.le_of_ble_eq_true rfl) rfl fun A4 hp => hgo _ A4 ?_
  rw [Bool.or_true, Bool.or_true]
  exact hp
 ·rw [h] at hgo
  refine hgo _ A3 ?_
  rw [Bool.or_false]
  exact hp
end
end Go.Proofs.YtlcigkdflbfdgaaGreatDoor.sg
