/-
 Walks: R4, RA, RB.
-/
import Derived.Test.YtlcigkdflbfdgaaGreatDoorSgR8
import Derived.Test.YtlcigkdflbfdgaaGreatDoorSgWV
namespace Go.Proofs.YtlcigkdflbfdgaaGreatDoor.sg
set_option linter.unusedVariables false
open Go Go.Eng Go.Sh
/-! ### There and back -/
theorem letters_back {w : List UInt8} (ps : List (List UInt8)) (hw : (32 : UInt8) ∉ w) : lettersV (w ++ tl ps) = (w, tl ps) := by
 unfold lettersV
 cases ps with
 | nil => rw [show w ++ tl [] = w by simp [tl], cutAt_of_not hw]; rfl
 | cons p ps => rw [show w ++ tl (p :: ps) = w ++ 32 :: (p ++ tl ps) from rfl, cutAt_app _ hw]; rfl
theorem rword_back (t : List UInt8) (ps : List (List UInt8)) : rwordV (tl (word t :: ps)) = (t, tl ps, false) := by
 unfold rwordV
 have e : blankV (tl (word t :: ps)) = (word t ++ tl ps, false) := by
  show blankV (32 :: (word t ++ tl ps)) = _
  rw [blankV_cons, if_pos rfl]
 rw [e]
 simp only [unqG_word]
theorem digs_dig {a d : Nat} (h : d < 10) : digsV a [UInt8.ofNat (48 + d)] = some (a * 10 + d) := by
 simp only [digsV, digit_nat h]
 rw [if_pos (by omega)]
 congr 1; omega
theorem digs_back (u : Nat) : digsV 0 (Lib.decDigits u) = some u := by
 induction u using Nat.strongRecOn with
 | _ u ih =>
  rw [Lib.decDigits]
  split
  ·rename_i hu
   have := digs_dig (a := 0) hu
   rw [Nat.zero_mul, Nat.zero_add] at this
   exact this
  ·rename_i hu
   rw [digsV_app _ _ _ _ (ih (u / 10) (by omega)), digs_dig (by omega)]
   congr 1; omega
theorem numT_back {n : Int} (h : -9223372036854775808 ≤ n ∧ n ≤ 9223372036854775807) : numT (Lib.itoa n) = (n, false) := by
 have hl := digits_len 18 n.natAbs (by omega)
 have hne := digits_ne n.natAbs
 unfold numT
 by_cases hn : n < 0
 ·have e : Lib.itoa n = 45 :: Lib.decDigits n.natAbs := if_pos hn
  have e1 : (Lib.itoa n).head? = some 45 := by rw [e]; rfl
  have e2 : (if (Lib.itoa n).head? = some 45 then (Lib.itoa n).drop 1 else Lib.itoa n) = Lib.decDigits n.natAbs := by rw [if_pos e1, e]; rfl
  have ez : wrapW .i64 (subW .u64 0 ((n.natAbs : Nat) : Int)) = n := by
   rw [subW_eq, IntKind.wrap_u64, wrapW_eq, wrap_i64']
   split <;> omega
  rw [e2, if_neg (by intro h2; rcases h2 with h2 | h2; exact hne h2; omega), digs_back]
  simp only [if_pos e1, ez]
  simp
 ·have e : Lib.itoa n = Lib.decDigits n.natAbs := by
   unfold Lib.itoa
   rw [if_neg hn, show n.toNat = n.natAbs by omega]
  have e1 : ¬ (Lib.itoa n).head? = some 45 := fun h1 => by
   rw [e] at h1
   cases hd : Lib.decDigits n.natAbs with
   | nil => exact hne hd
   | cons c t =>
    rw [hd] at h1
    obtain rfl := Option.some.inj h1
    have := digits_mem n.natAbs 45 (by rw [hd]; exact .head _)
    exact absurd this.1 (by decide)
  have e2 : (if (Lib.itoa n).head? = some 45 then (Lib.itoa n).drop 1 else Lib.itoa n) = Lib.decDigits n.natAbs := by rw [if_neg e1, e]
  have ez : wrapW .i64 ((n.natAbs : Nat) : Int) = n := by
   rw [wrapW_eq, wrap_i64']
   split <;> omega
  rw [e2, if_neg (by intro h2; rcases h2 with h2 | h2; exact hne h2; omega), digs_back]
  simp only [if_neg e1, ez]
  simp
theorem rnum_back {n : Int} (h : -9223372036854775808 ≤ n ∧ n ≤ 9223372036854775807) (ps : List (List UInt8)) : rnumV (tl (Lib.itoa n :: ps)) = (n, tl ps, false) := by
 unfold rnumV
 have e : blankV (tl (Lib.itoa n :: ps)) = (Lib.itoa n ++ tl ps, false) := by
  show blankV (32 :: (Lib.itoa n ++ tl ps)) = _
  rw [blankV_cons, if_pos rfl]
 rw [e]
 simp only [letters_back ps (itoa_no (by decide)), numT_back h, Bool.or_self]
theorem rkind_back {k : Int} (h : nameV k ≠ []) (ps : List (List UInt8)) : rkindV (nameV k ++ tl ps) = (k, tl ps, false) := by
 obtain ⟨h1, h2, h3, _⟩ := kind_ok h
 unfold rkindV
 rw [letters_back ps h3]
 simp only [h2]
 rw [if_pos h1.1]
/-! ### What was read is a line -/
theorem blank_inv {s : List UInt8} (h : (blankV s).2 = false) : s = 32 :: (blankV s).1 := by
 cases s with
 | nil => cases h
 | cons c t =>
  rw [blankV_cons] at h ⊢
  split at h
  ·rename_i hc; rw [if_pos hc, hc]
  ·cases h
theorem letters_inv (s : List UInt8) : s = (lettersV s).1 ++ (lettersV s).2 := by
 unfold lettersV
 cases h : cutAt 32 s with
 | none => simp
 | some p => exact (cutAt_some h).1
theorem rword_inv {s : List UInt8} (h : (rwordV s).2.2 = false) : s = tl [word (rwordV s).1] ++ (rwordV s).2.1 := by
 unfold rwordV at h ⊢
 cases hq : unqG (blankV s).1 with
 | none => rw [hq] at h; cases h
 | some p =>
  rw [hq] at h
  simp only at h ⊢
  have h1 := blank_inv h
  have h2 := unqG_some (b := p.1) (rest := p.2) hq
  conv => lhs; rw [h1, h2]
  simp [tl]
theorem rnum_inv {s : List UInt8} (h : (rnumV s).2.2 = false) : s = tl [Lib.itoa (rnumV s).1] ++ (rnumV s).2.1 := by
 unfold rnumV at h ⊢
 simp only [Bool.or_eq_false_iff] at h
 have h1 := blank_inv h.1
 have h2 := letters_inv (blankV s).1
 have h3 : Lib.itoa (numT (lettersV (blankV s).1).1).1 = (lettersV (blankV s).1).1 := by
  have h4 := h.2
  generalize (lettersV (blankV s).1).1 = t at *
  unfold numT at h4 ⊢
  generalize (if t.head? = some 45 then t.drop 1 else t) = d at *
  by_cases hc : d = [] ∨ 19 < d.length
  ·rw [if_pos hc] at h4; cases h4
  ·rw [if_neg hc] at h4 ⊢
   cases hu : digsV 0 d with
   | none => rw [hu] at h4; cases h4
   | some u =>
    rw [hu] at h4
    simpa using h4
 simp only
 rw [h3]
 conv => lhs; rw [h1, h2]
 simp [tl]
theorem rkind_inv {s : List UInt8} (h : (rkindV s).2.2 = false) : nameV (rkindV s).1 ≠ [] ∧ s = nameV (rkindV s).1 ++ (rkindV s).2.1 := by
 unfold rkindV at h ⊢
 split at h
 ·rename_i h1
  rw [if_pos h1]
  simp only
  have hn : nameV (idxV kindL (lettersV s).1) = (lettersV s).1 := by
   unfold idxV at h1 ⊢
   split at h1
   ·rename_i hm
    rw [if_pos hm]
    have hj := List.idxOf_lt_length_of_mem hm
    have hj' := hj
    rw [kindL_len] at hj
    unfold nameV
    rw [if_neg (by omega), Int.toNat_natCast, List.getD_eq_getElem?_getD, List.getElem?_eq_getElem hj']
    exact List.getElem_idxOf _
   ·omega
  refine ⟨fun e => ?_, ?_⟩
  ·rw [hn] at e
   have h2 : idxV kindL [] = 0 := by kernel_rfl
   rw [e, h2] at h1
   omega
  ·rw [hn]; exact letters_inv s
 ·cases h
end Go.Proofs.YtlcigkdflbfdgaaGreatDoor.sg
namespace Go.Proofs.YtlcigkdflbfdgaaGreatDoor.sg
set_option linter.unusedVariables false
open Go Go.Eng Go.Sh
/-- Entries, up to the line's end. -/
noncomputable def entsQ : Nat → List UInt8 → Bool → List (Int × List UInt8) × List UInt8 × Bool
 | 0, s, b => ([], s, b)
 | k + 1, s, b => if s = [] ∨ b = true then ([], s, b) else
  (((rnumV s).1, (rwordV (rnumV s).2.1).1) :: (entsQ k (rwordV (rnumV s).2.1).2.1 ((b || (rnumV s).2.2) || (rwordV (rnumV s).2.1).2.2)).1,
   (entsQ k (rwordV (rnumV s).2.1).2.1 ((b || (rnumV s).2.2) || (rwordV (rnumV s).2.1).2.2)).2)
noncomputable def readQ2 (k : Int) (told rest : List UInt8) (b : Bool) : Rst :=
 if told = [101, 114, 114, 111, 114] then ({ row0 k with err := (rnumV rest).1 }, (rnumV rest).2.1, b || (rnumV rest).2.2)
 else if ¬ told = [111, 107] ∨ b = true then (row0 k, rest, true)
 else if eqB k 7 then ({ row0 k with data := (rwordV rest).1 }, (rwordV rest).2.1, b || (rwordV rest).2.2)
 else if eqB k 10 then
  ({ row0 k with s1 := (rnumV rest).1, s2 := (rnumV (rnumV rest).2.1).1, s3 := (rnumV (rnumV (rnumV rest).2.1).2.1).1, s4 := (rnumV (rnumV (rnumV (rnumV rest).2.1).2.1).2.1).1 },
   (rnumV (rnumV (rnumV (rnumV rest).2.1).2.1).2.1).2.1,
   (((b || (rnumV rest).2.2) || (rnumV (rnumV rest).2.1).2.2) || (rnumV (rnumV (rnumV rest).2.1).2.1).2.2) || (rnumV (rnumV (rnumV (rnumV rest).2.1).2.1).2.1).2.2)
 else if eqB k 11 then ({ row0 k with ents := (entsQ (rest.length + 1) rest b).1 }, (entsQ (rest.length + 1) rest b).2)
 else if (eqB k 15 || eqB k 16) then ({ row0 k with is := decide ((lettersV (blankV rest).1).1 = [121, 101, 115]) }, (lettersV (blankV rest).1).2,
  (b || (blankV rest).2) || (!decide ((lettersV (blankV rest).1).1 = [121, 101, 115]) && !decide ((lettersV (blankV rest).1).1 = [110, 111])))
 else (row0 k, rest, b)
noncomputable def toldQ (s : List UInt8) : List UInt8 := (lettersV (blankV (rkindV s).2.1).1).1
noncomputable def readQ (s : List UInt8) : Rst := readQ2 (rkindV s).1 (toldQ s) (lettersV (blankV (rkindV s).2.1).1).2 ((rkindV s).2.2 || (blankV (rkindV s).2.1).2)
noncomputable def rowQB (s : List UInt8) : Bool := !(readQ s).2.2 && (decide ((readQ s).2.1 = []) && (!decide (toldQ s = [101, 114, 114, 111, 114]) || !eqB (readQ s).1.err 0))
theorem blank_back (w : List UInt8) (ps : List (List UInt8)) : blankV (tl (w :: ps)) = (w ++ tl ps, false) := by
 show blankV (32 :: (w ++ tl ps)) = _
 rw [blankV_cons, if_pos rfl]
theorem tl_len (w : List UInt8) (ps : List (List UInt8)) : (tl (w :: ps)).length = 1 + (w.length + (tl ps).length) := by
 show (32 :: (w ++ tl ps)).length = _
 rw [List.length_cons, List.length_append]; omega
theorem ents_backQ : ∀ (L : List (Int × List UInt8)) (k : Nat), (∀ p ∈ L, -9223372036854775808 ≤ p.1 ∧ p.1 ≤ 9223372036854775807) → (tl (eparts L)).length < k → entsQ k (tl (eparts L)) false = (L, [], false)
 | [], k, _, h => by
  obtain ⟨k, rfl⟩ : ∃ j, k = j + 1 := ⟨k - 1, by omega⟩
  rfl
 | p :: L, k, hL, h => by
  obtain ⟨k, rfl⟩ : ∃ j, k = j + 1 := ⟨k - 1, by omega⟩
  have e2 : eparts (p :: L) = Lib.itoa p.1 :: word p.2 :: eparts L := by simp [eparts]
  rw [e2] at h ⊢
  rw [tl_len, tl_len] at h
  have hne : tl (Lib.itoa p.1 :: word p.2 :: eparts L) ≠ [] := fun e => by
   have := congrArg List.length e
   rw [tl_len] at this
   simp only [List.length_nil] at this
   omega
  have ih := ents_backQ L k (fun q hq => hL q (.tail _ hq)) (by omega)
  rw [entsQ, if_neg (by simp [hne])]
  rw [rnum_back (hL p (.head _))]
  simp only
  rw [rword_back]
  simp only [Bool.or_self]
  rw [ih]
theorem readQ_line {x : Rw} (hn : NumsR x) (h : rlB x = true) : readQ (rlV x) = (x, [], false) ∧ (toldQ (rlV x) = [101, 114, 114, 111, 114] → eqB x.err 0 = false) := by
 obtain ⟨h0, h1, h2, h3, h4⟩ := rlB_no h
 have hk : rkindV (rlV x) = (x.kind, tl (partsR x), false) := by
  rw [rlV_eq]; exact rkind_back h0 _
 unfold readQ toldQ
 rw [hk]
 simp only
 have hst := hn.stat
 have hino := hn.ino
 have herr := hn.err
 obtain ⟨kind, err, is, data, s1, s2, s3, s4, ents⟩ := x
 simp only at h0 h1 h2 h3 h4 hino herr
 unfold partsR
 simp only
 by_cases he : err = 0
 ·subst he
  rw [if_pos (by simp [eqB_eq]), blank_back]
  simp only
  rw [letters_back _ (by decide)]
  simp only [Bool.or_self]
  refine ⟨?_, fun h => absurd h (by decide)⟩
  unfold readQ2
  rw [if_neg (by decide), if_neg (by simp)]
  unfold tparts
  simp only
  by_cases k7 : kind = 7
  ·subst k7
   have e2 : s1 = 0 ∧ s2 = 0 ∧ s3 = 0 ∧ s4 = 0 := h2.resolve_left (by omega)
   have e3 : ents = [] := h3.resolve_left (by omega)
   have e4 : is = false := h4.resolve_right (by omega)
   obtain ⟨rfl, rfl, rfl, rfl⟩ := e2
   subst e3 e4
   simp only [eqB_self, if_true]
   rw [rword_back]
   rfl
  have e7 : eqB kind 7 = false := by simp [eqB_eq, k7]
  simp only [e7, Bool.false_eq_true, if_false]
  have e1 : data = [] := h1.resolve_left (by omega)
  subst e1
  by_cases k10 : kind = 10
  ·subst k10
   have e3 : ents = [] := h3.resolve_left (by omega)
   have e4 : is = false := h4.resolve_right (by omega)
   subst e3 e4
   simp only [eqB_self, if_true]
   have r1 := hst s1 (by simp [statL])
   have r2 := hst s2 (by simp [statL])
   have r3 := hst s3 (by simp [statL])
   have r4 := hst s4 (by simp [statL])
   have z1 : tl ((statL ⟨10, 0, false, [], s1, s2, s3, s4, []⟩).map Lib.itoa) = tl (Lib.itoa s1 :: Lib.itoa s2 :: Lib.itoa s3 :: Lib.itoa s4 :: []) := rfl
   rw [z1, rnum_back r1]
   simp only [rnum_back r2, rnum_back r3, rnum_back r4]
   rfl
  have e10 : eqB kind 10 = false := by simp [eqB_eq, k10]
  simp only [e10, Bool.false_eq_true, if_false]
  have e2 : s1 = 0 ∧ s2 = 0 ∧ s3 = 0 ∧ s4 = 0 := h2.resolve_left (by omega)
  obtain ⟨rfl, rfl, rfl, rfl⟩ := e2
  by_cases k11 : kind = 11
  ·subst k11
   have e4 : is = false := h4.resolve_right (by omega)
   subst e4
   simp only [eqB_self, if_true]
   rw [ents_backQ ents _ hino (Nat.lt_succ_self _)]
   rfl
  have e11 : eqB kind 11 = false := by simp [eqB_eq, k11]
  simp only [e11, Bool.false_eq_true, if_false]
  have e3 : ents = [] := h3.resolve_left (by omega)
  subst e3
  by_cases k15 : kind = 15 ∨ kind = 16
  ·have hb : (eqB kind 15 || eqB kind 16) = true := by
    rcases k15 with rfl | rfl <;> simp [eqB_eq]
   simp only [hb, if_true]
   cases is with
   | true =>
    rw [if_pos rfl, blank_back]
    simp only
    rw [letters_back [] (by decide)]
    rfl
   | false =>
    rw [if_neg (by decide), blank_back]
    simp only
    rw [letters_back [] (by decide)]
    rfl
  ·have hb : ¬ (eqB kind 15 || eqB kind 16) = true := by
    simp only [eqB_eq, Bool.or_eq_true, beq_iff_eq]
    exact k15
   have e4 : is = false := h4.resolve_right fun e => k15 e.2
   subst e4
   simp only [hb]
   rfl
 ·have e0 : eqB err 0 = false := by simp [eqB_eq, he]
  rw [if_neg (by rw [e0]; decide)]
  have e1 : data = [] := h1.resolve_left fun e => he e.1
  have e2 : s1 = 0 ∧ s2 = 0 ∧ s3 = 0 ∧ s4 = 0 := h2.resolve_left fun e => he e.1
  have e3 : ents = [] := h3.resolve_left fun e => he e.1
  have e4 : is = false := h4.resolve_right fun e => he e.1
  obtain ⟨rfl, rfl, rfl, rfl⟩ := e2
  subst e1 e3 e4
  rw [blank_back]
  simp only
  rw [letters_back _ (by decide)]
  simp only [Bool.or_self]
  refine ⟨?_, fun _ => e0⟩
  unfold readQ2
  rw [if_pos rfl, rnum_back herr]
  rfl
theorem ents_invQ : ∀ (k : Nat) (s : List UInt8) (b : Bool), (entsQ k s b).2 = ([], false) → b = false ∧ s = tl (eparts (entsQ k s b).1)
 | 0, s, b, h => by
  obtain ⟨rfl, rfl⟩ := Prod.mk.inj h
  exact ⟨rfl, rfl⟩
 | k + 1, s, b, h => by
  rw [entsQ] at h ⊢
  by_cases hs : s = [] ∨ b = true
  ·rw [if_pos hs] at h ⊢
   obtain ⟨rfl, rfl⟩ := Prod.mk.inj h
   exact ⟨rfl, rfl⟩
  ·rw [if_neg hs] at h ⊢
   simp only at h ⊢
   obtain ⟨h1, h2⟩ := ents_invQ k _ _ h
   obtain ⟨h3, h4⟩ := Bool.or_eq_false_iff.1 h1
   obtain ⟨h5, h6⟩ := Bool.or_eq_false_iff.1 h3
   have n1 := rnum_inv h6
   have w1 := rword_inv h4
   refine ⟨h5, ?_⟩
   have e2 : ∀ (p : Int × List UInt8) L, eparts (p :: L) = [Lib.itoa p.1] ++ ([word p.2] ++ eparts L) := fun p L => by simp [eparts]
   rw [e2, tl_append, tl_append, ← h2, ← w1, ← n1]
theorem readQ2_b {k : Int} {told rest : List UInt8} {b : Bool} (h : (readQ2 k told rest b).2.2 = false) : b = false := by
 cases b with
 | false => rfl
 | true =>
  exfalso
  unfold readQ2 at h
  split at h
  ·cases h
  ·rw [if_pos (.inr rfl)] at h
   cases h
theorem readQ2_inv {k : Int} {told rest : List UInt8} (hk : nameV k ≠ []) (h1 : (readQ2 k told rest false).2.2 = false) (h2 : (readQ2 k told rest false).2.1 = []) (h3 : told = [101, 114, 114, 111, 114] → eqB (readQ2 k told rest false).1.err 0 = false) :
  rlB (readQ2 k told rest false).1 = true ∧ rlV (readQ2 k told rest false).1 = nameV k ++ (32 :: (told ++ rest)) := by
 unfold readQ2 at h1 h2 h3 ⊢
 by_cases c1 : told = [101, 114, 114, 111, 114]
 ·rw [if_pos c1] at h1 h2 h3 ⊢
  have n1 := rnum_inv (s := rest) h1
  have h2 : (rnumV rest).2.1 = [] := h2
  rw [h2, List.append_nil] at n1
  have e0 : eqB (rnumV rest).1 0 = false := h3 c1
  constructor
  ·unfold rlB bareD bareS bareE zeroS row0
   simp only [e0, decide_eq_false hk]
   simp [eqB_eq]
  ·unfold rlV
   rw [if_neg (by show ¬ eqB (rnumV rest).1 0 = true; rw [e0]; decide), c1]
   conv => rhs; rw [n1]
   simp [tl, row0]
 rw [if_neg c1] at h1 h2 ⊢
 clear h3
 by_cases c2 : ¬ told = [111, 107] ∨ false = true
 ·rw [if_pos c2] at h1; cases h1
 rw [if_neg c2] at h1 h2 ⊢
 have c3 : told = [111, 107] := by
  by_cases e : told = [111, 107]
  ·exact e
  ·exact absurd (.inl e) c2
 subst c3
 have ok : ∀ x : Rw, x.kind = k → x.err = 0 → rlB x = true → tailV x = rest → rlB x = true ∧ rlV x = nameV k ++ (32 :: ([111, 107] ++ rest)) := fun x e1 e2 e3 e4 => by
  refine ⟨e3, ?_⟩
  unfold rlV
  rw [if_pos (by rw [e2]; exact eqB_self 0), e4, e1]
  simp
 by_cases k7 : eqB k 7 = true
 ·rw [if_pos k7] at h1 h2 ⊢
  have w1 := rword_inv (s := rest) h1
  have h2 : (rwordV rest).2.1 = [] := h2
  rw [h2, List.append_nil] at w1
  refine ok ⟨k, 0, false, (rwordV rest).1, 0, 0, 0, 0, []⟩ rfl rfl ?_ ?_
  ·unfold rlB bareD bareS bareE zeroS
   simp only [decide_eq_false hk, k7]
   simp [eqB_eq]
  ·unfold tailV
   dsimp only
   rw [if_pos (show eqB k 7 = true from k7)]
   conv => rhs; rw [w1]
   simp [tl]
 rw [if_neg k7] at h1 h2 ⊢
 by_cases k10 : eqB k 10 = true
 ·rw [if_pos k10] at h1 h2 ⊢
  simp only [Bool.false_or, Bool.or_eq_false_iff] at h1
  obtain ⟨⟨⟨q1, q2⟩, q3⟩, q4⟩ := h1
  have n1 := rnum_inv q1
  have n2 := rnum_inv q2
  have n3 := rnum_inv q3
  have n4 := rnum_inv q4
  have h2 : (rnumV (rnumV (rnumV (rnumV rest).2.1).2.1).2.1).2.1 = [] := h2
  rw [h2, List.append_nil] at n4
  rw [n4] at n3
  refine ok ⟨k, 0, false, [], (rnumV rest).1, (rnumV (rnumV rest).2.1).1, (rnumV (rnumV (rnumV rest).2.1).2.1).1, (rnumV (rnumV (rnumV (rnumV rest).2.1).2.1).2.1).1, []⟩ rfl rfl ?_ ?_
  ·unfold rlB bareD bareS bareE zeroS
   simp only [decide_eq_false hk, k10]
   simp [eqB_eq]
  ·unfold tailV
   dsimp only
   rw [if_neg (show ¬ eqB k 7 = true from k7), if_pos (show eqB k 10 = true from k10)]
   conv => rhs; rw [n1, n2, n3]
   simp [tl, statT, statL]
 rw [if_neg k10] at h1 h2 ⊢
 by_cases k11 : eqB k 11 = true
 ·rw [if_pos k11] at h1 h2 ⊢
  have hx := (ents_invQ (rest.length + 1) rest false (Prod.ext h2 h1)).2
  refine ok ⟨k, 0, false, [], 0, 0, 0, 0, (entsQ (rest.length + 1) rest false).1⟩ rfl rfl ?_ ?_
  ·unfold rlB bareD bareS bareE zeroS
   simp only [decide_eq_false hk, k11]
   simp [eqB_eq]
  ·unfold tailV
   dsimp only
   rw [if_neg (show ¬ eqB k 7 = true from k7), if_neg (show ¬ eqB k 10 = true from k10), if_pos (show eqB k 11 = true from k11), entsT_tl]
   exact hx.symm
 rw [if_neg k11] at h1 h2 ⊢
 by_cases k15 : (eqB k 15 || eqB k 16) = true
 ·rw [if_pos k15] at h1 h2 ⊢
  simp only [Bool.false_or, Bool.or_eq_false_iff] at h1
  obtain ⟨q1, q2⟩ := h1
  have b1 := blank_inv q1
  have l1 := letters_inv (blankV rest).1
  have h2 : (lettersV (blankV rest).1).2 = [] := h2
  rw [h2, List.append_nil] at l1
  rw [← l1] at q2 ⊢
  refine ok ⟨k, 0, decide ((blankV rest).1 = [121, 101, 115]), [], 0, 0, 0, 0, []⟩ rfl rfl ?_ ?_
  ·unfold rlB bareD bareS bareE zeroS
   simp only [decide_eq_false hk, k15]
   simp [eqB_eq]
  ·unfold tailV
   dsimp only
   rw [if_neg (show ¬ eqB k 7 = true from k7), if_neg (show ¬ eqB k 10 = true from k10), if_neg (show ¬ eqB k 11 = true from k11), if_pos (show (eqB k 15 || eqB k 16) = true from k15)]
   conv => rhs; rw [b1]
   simp only [decide_eq_true_eq]
   by_cases y : (blankV rest).1 = [121, 101, 115]
   ·rw [if_pos y, y]
   ·rw [if_neg y]
    have : (blankV rest).1 = [110, 111] := by
     simpa [y] using q2
    rw [this]
 rw [if_neg k15] at h1 h2 ⊢
 have h2 : rest = [] := h2
 subst h2
 refine ok ⟨k, 0, false, [], 0, 0, 0, 0, []⟩ rfl rfl ?_ ?_
 ·unfold rlB bareD bareS bareE zeroS
  simp only [decide_eq_false hk]
  simp [eqB_eq]
 ·unfold tailV
  dsimp only
  rw [if_neg (show ¬ eqB k 7 = true from k7), if_neg (show ¬ eqB k 10 = true from k10), if_neg (show ¬ eqB k 11 = true from k11), if_neg (show ¬ (eqB k 15 || eqB k 16) = true from k15)]
theorem readQ_inv {s : List UInt8} (h : rowQB s = true) : rlB (readQ s).1 = true ∧ rlV (readQ s).1 = s := by
 unfold rowQB at h
 simp only [Bool.and_eq_true, Bool.not_eq_true', decide_eq_true_eq, Bool.or_eq_true, decide_eq_false_iff_not] at h
 obtain ⟨h1, h2, h3⟩ := h
 have hb := readQ2_b h1
 obtain ⟨b1, b2⟩ := Bool.or_eq_false_iff.1 hb
 obtain ⟨j1, j2⟩ := rkind_inv b1
 have i1 := blank_inv b2
 have i2 := letters_inv (blankV (rkindV s).2.1).1
 unfold readQ at h1 h2 h3 ⊢
 rw [hb] at h1 h2 h3 ⊢
 obtain ⟨r1, r2⟩ := readQ2_inv j1 h1 h2 fun e => h3.resolve_left fun h => h e
 refine ⟨r1, r2.trans ?_⟩
 conv => rhs; rw [j2, i1, i2]
 rfl
theorem entsQ_nums : ∀ (k : Nat) (s : List UInt8) (b : Bool), ∀ p ∈ (entsQ k s b).1, -9223372036854775808 ≤ p.1 ∧ p.1 ≤ 9223372036854775807
 | 0, s, b, p, hp => by cases hp
 | k + 1, s, b, p, hp => by
  rw [entsQ] at hp
  split at hp
  ·cases hp
  ·rcases List.mem_cons.1 hp with rfl | hp
   ·exact numT_in _
   ·exact entsQ_nums k _ _ p hp
theorem readQ_nums (s : List UInt8) : NumsR (readQ s).1 := by
 have n : ∀ t : List UInt8, -9223372036854775808 ≤ (rnumV t).1 ∧ (rnumV t).1 ≤ 9223372036854775807 := fun t => numT_in _
 unfold readQ
 generalize (rkindV s).1 = k
 generalize toldQ s = told
 generalize (lettersV (blankV (rkindV s).2.1).1).2 = rest
 generalize ((rkindV s).2.2 || (blankV (rkindV s).2.1).2) = b
 have z : -9223372036854775808 ≤ (0 : Int) ∧ (0 : Int) ≤ 9223372036854775807 := by omega
 have nil : ∀ p ∈ ([] : List (Int × List UInt8)), -9223372036854775808 ≤ p.1 ∧ p.1 ≤ 9223372036854775807 := fun p hp => by cases hp
 unfold readQ2
 split
 ·exact ⟨n _, statL0 k, nil⟩
 split
 ·exact ⟨z, statL0 k, nil⟩
 split
 ·exact ⟨z, statL0 k, nil⟩
 split
 ·refine ⟨z, fun m hm => ?_, nil⟩
  simp only [statL, List.mem_cons, List.not_mem_nil, or_false] at hm
  rcases hm with rfl | rfl | rfl | rfl <;> exact n _
 split
 ·exact ⟨z, statL0 k, entsQ_nums _ _ _⟩
 split
 ·exact ⟨z, statL0 k, nil⟩
 ·exact ⟨z, statL0 k, nil⟩
/-- Both read the same. -/
theorem ref_row (s : List UInt8) (hs : s.length ≤ 1048576) : (if rowQB s then some (readQ s).1 else none) = rowV s := by
 cases h : rowQB s with
 | true =>
  obtain ⟨r1, r2⟩ := readQ_inv h
  have := row_line (t := s) (readQ_nums s) (by unfold rowO; rw [if_pos r1, r2])
  exact this.symm
 | false =>
  cases hx : rowV s with
  | none => rfl
  | some x =>
   have hl := line_row hx
   have hn : NumsR x := by
    unfold rowV at hx
    split at hx
    ·obtain rfl := Option.some.inj hx
     have f := small_read s hs
     exact ⟨f.err, f.stat, f.ino⟩
    ·cases hx
   unfold rowO at hl
   split at hl
   ·rename_i hb
    obtain rfl := Option.some.inj hl
    obtain ⟨q1, q2⟩ := readQ_line hn hb
    unfold rowQB at h
    rw [q1] at h
    simp only [Bool.not_false, decide_true, Bool.true_and, Bool.or_eq_false_iff, Bool.not_eq_false', decide_eq_true_eq] at h
    rw [q2 h.1] at h
    cases h.2
   ·cases hl
end Go.Proofs.YtlcigkdflbfdgaaGreatDoor.sg
namespace Go.Proofs.YtlcigkdflbfdgaaGreatDoor.sg
set_option linter.unusedVariables false
open Go Go.Eng Go.Sh
theorem rnumV_len (s : List UInt8) : (rnumV s).2.1.length ≤ s.length := by
 have h1 := blankV_len s
 have h2 := (lettersV_len (blankV s).1).2
 show (lettersV (blankV s).1).2.length ≤ s.length
 omega
theorem rwordV_len (s : List UInt8) : (rwordV s).1.length ≤ s.length ∧ (rwordV s).2.1.length ≤ s.length := by
 have hb := blankV_len s
 unfold rwordV
 cases hq : unqG (blankV s).1 with
 | none => simp
 | some p =>
  have h1 := unqG_some (b := p.1) (rest := p.2) hq
  have h2 := congrArg List.length h1
  have h3 := inside_len p.1
  have h4 : (word p.1).length = (inside p.1).length + 2 := by unfold word; simp
  rw [List.length_append] at h2
  simp only
  omega
theorem rnumV_short {s : List UInt8} (hs : s ≠ []) (h : (rnumV s).2.2 = false) : (rnumV s).2.1.length < s.length := by
 unfold rnumV at h
 simp only [Bool.or_eq_false_iff] at h
 have h1 := congrArg List.length (blank_inv h.1)
 have h2 := (lettersV_len (blankV s).1).2
 rw [List.length_cons] at h1
 show (lettersV (blankV s).1).2.length < s.length
 omega
theorem rkindV_len (s : List UInt8) : (rkindV s).2.1.length ≤ s.length := by
 have := (lettersV_len s).2
 unfold rkindV
 split <;> exact this
section
variable {os : List (Nat × AObj)} {A : AW} {Q : Value → AW → Prop} {l : List Thing}
set_option maxRecDepth 20000 in
theorem refRowG (s : List UInt8) (hs : s.length ≤ 1048576) (hp : Hp (tabsOf os) A l)
  (H : ∀ A' D d e, Hp (tabsOf os) A' (D ++ l) → SeesB (tabsOf os) D d.1 d.2.1 (readQ s).1.data → RowsAt (tabsOf os) D e.1 e.2.1 2 (entC (readQ s).1.ents) → e.2.1 = (readQ s).1.ents.length → Q (.tuple ⟨[.agg ⟨rwC (readQ s).1 d e⟩, .bool (rowQB s)]⟩) A') : Goes (XX os) 6 32 [.string (BA s)] A Q := by
 refine t32 (d := 5) (BA s, ()) fun n hn => ?_
 unfold f32
 refine ev_new hp fun b0 A1 hp => ?_
 refine ev_new hp fun b1 A2 hp => ?_
 unfold f32c17
 refine ((rkindG s false (by omega) hp fun A3 hp => ⟨_, rfl, ?_⟩).mono (show 2 ≤ 5 by decide)).use hn
 refine ev_new hp fun b3 A4 hp => ?_
 refine ev_store 0 hp rfl rfl (Nat.le_of_ble_eq_true rfl) rfl fun A5 hp => ?_
 have hp := hp.front 1 rfl
 have hk := rkindV_len s
 have hb1 := blankV_len (rkindV s).2.1
 have hl1 := (lettersV_len (blankV (rkindV s).2.1).1).2
 unfold f32c16
 refine ((rblankG (rkindV s).2.1 (false || (rkindV s).2.2) hp fun A6 hp => ⟨(), rfl, ?_⟩).mono (show 1 ≤ 5 by decide)).use hn
 refine ((rlettersG (blankV (rkindV s).2.1).1 _ (by omega) hp fun A7 hp => ⟨_, rfl, ?_⟩).mono (show 1 ≤ 5 by decide)).use hn
 have hrd : readQ s = readQ2 (rkindV s).1 (lettersV (blankV (rkindV s).2.1).1).1 (lettersV (blankV (rkindV s).2.1).1).2 ((rkindV s).2.2 || (blankV (rkindV s).2.1).2) := rfl
 have htd : toldQ s = (lettersV (blankV (rkindV s).2.1).1).1 := rfl
 unfold rowQB at H
 rw [htd] at H
 clear htd
 rw [Bool.false_or] at hp
 generalize readQ s = st at *
 generalize (rkindV s).1 = k at *
 generalize (lettersV (blankV (rkindV s).2.1).1).2 = rest at *
 generalize (lettersV (blankV (rkindV s).2.1).1).1 = told at *
 generalize ((rkindV s).2.2 || (blankV (rkindV s).2.1).2) = b at *
 obtain ⟨t0, t1, t3, hp⟩ : ∃ t0 t1 t3, Hp (tabsOf os) A7 (rdr b1 t1 false false rest b :: .cells b3 (rwC (row0 k) (none, 0, 0) (none, 0, 0)) t3 false (0, 0) false :: .cells b0 (rwC (row0 0) (none, 0, 0) (none, 0, 0)) t0 false (0, 0) false :: l) := ⟨_, _, _, hp⟩
 have hrl : rest.length < 2 ^ 36 := by omega
 unfold readQ2 at hrd
 rw [show st21 = BA [101, 114, 114, 111, 114] from rfl, BA_seq]
 refine ev_ite (fun h1 => ?_) fun h1 => ?_
 ·-- an error
  have h1 := of_decide_eq_true h1
  rw [if_pos h1] at hrd
  unfold f32c4
  refine ((rnumberG rest b (by omega) hp fun A8 hp => ⟨_, rfl, ?_⟩).mono (show 2 ≤ 5 by decide)).use hn
  refine ev_store 1 hp rfl rfl (Nat.le_of_ble_eq_true rfl) rfl fun A9 hp => ?_
  subst hrd
  generalize (rnumV rest).1 = er at *
  generalize (rnumV rest).2.1 = rs at *
  generalize (b || (rnumV rest).2.2) = bd at *
  have hp : Hp (tabsOf os) A9 (rdr b1 t1 false false rs bd :: .cells b3 (rwC ⟨k, er, false, [], 0, 0, 0, 0, []⟩ (none, 0, 0) (none, 0, 0)) t3 false (0, 0) false :: .cells b0 (rwC (row0 0) (none, 0, 0) (none, 0, 0)) t0 false (0, 0) false :: l) := hp
  refine ev_join (fun j A' => Hp (tabsOf os) A' (rdr b1 t1 false false rs bd :: .cells b3 (rwC ⟨k, er, false, [], 0, 0, 0, 0, []⟩ (none, 0, 0) (none, 0, 0)) t3 false (0, 0) false :: .cells b0 (rwC ⟨k, er, false, [], 0, 0, 0, 0, []⟩ (none, 0, 0) (none, 0, 0)) t0 false (0, 0) false :: l) ∧
   j = (!bd && (decide (rs = []) && !eqB er 0), ())) ?_ fun go hgo => ?_
  ·rintro _ A10 ⟨hp, rfl⟩
   unfold f32c0
   refine ev_load 2 hp rfl rfl rfl (Nat.le_of_ble_eq_true rfl) (x := (k, er, false, (none, 0, 0), (0 : Int), (0 : Int), (0 : Int), (0 : Int), (none, 0, 0), ())) rfl ?_
   have hh := H A10 [] (none, 0, 0) (none, 0, 0) (hp.drop 3) .nil .nil rfl
   rw [decide_eq_true h1] at hh
   exact ev_pure hh
  refine ev_load 1 hp rfl rfl rfl (Nat.le_of_ble_eq_true rfl) (x := (k, er, false, (none, 0, 0), (0 : Int), (0 : Int), (0 : Int), (0 : Int), (none, 0, 0), ())) rfl ?_
  refine ev_load 0 hp rfl rfl rfl (Nat.le_of_ble_eq_true rfl) (x := bd) rfl ?_
  unfold f32c3
  refine ev_ite (fun h2 => ?_) fun h2 => ?_
  ·refine ev_load 0 hp rfl rfl rfl (Nat.le_of_ble_eq_true rfl) (x := BA rs) rfl ?_
   unfold f32c2
   rw [show st0 = BA [] from rfl, BA_seq]
   refine ev_ite (fun h3 => ?_) fun h3 => ?_
   ·refine ev_load 1 hp rfl rfl rfl (Nat.le_of_ble_eq_true rfl) (x := er) rfl ?_
    unfold f32c1
    refine ev_store 2 hp rfl rfl (Nat.le_of_ble_eq_true rfl) rfl fun A10 hp => ?_
    refine ev_load 1 hp rfl rfl rfl (Nat.le_of_ble_eq_true rfl) (x := er) rfl (ev_cond_t (by simp [veqv, veq1]) ?_)
    exact hgo _ A10 ⟨hp, by rw [h2, h3]; rfl⟩
   ·refine ev_store 2 hp rfl rfl (Nat.le_of_ble_eq_true rfl) rfl fun A10 hp => ?_
    exact hgo _ A10 ⟨hp, by rw [h2, h3]; rfl⟩
  ·refine ev_store 2 hp rfl rfl (Nat.le_of_ble_eq_true rfl) rfl fun A10 hp => ?_
   exact hgo _ A10 ⟨hp, by rw [h2]; rfl⟩
 have h1 := of_decide_eq_false h1
 rw [if_neg h1] at hrd
 rw [decide_eq_false h1] at H
 refine ev_join (fun j A' => Hp (tabsOf os) A' (rdr b1 t1 false false rest b :: .cells b3 (rwC (row0 k) (none, 0, 0) (none, 0, 0)) t3 false (0, 0) false :: .cells b0 (rwC (row0 0) (none, 0, 0) (none, 0, 0)) t0 false (0, 0) false :: l) ∧ j = (decide (¬ told = [111, 107] ∨ b = true), ())) ?_ fun go20 hgo20 => ?_
 rotate_left
 ·rw [show st22 = BA [111, 107] from rfl, BA_seq]
  refine ev_ite (fun h2 => ?_) fun h2 => ?_
  ·have h2 : ¬ told = [111, 107] := by simpa using h2
   exact hgo20 _ A7 ⟨hp, by rw [decide_eq_true (.inl h2)]⟩
  ·have h2 : told = [111, 107] := by simpa using h2
   refine ev_load 0 hp rfl rfl rfl (Nat.le_of_ble_eq_true rfl) (x := b) rfl (hgo20 _ A7 ⟨hp, ?_⟩)
   cases b with
   | true => rw [decide_eq_true (.inr rfl)]
   | false => rw [decide_eq_false (by rintro (h | h); exact h h2; cases h)]
 rintro _ A8 ⟨hp, rfl⟩
 refine ev_ite (fun h2 => ?_) fun h2 => ?_
 ·have h2 := of_decide_eq_true h2
  rw [if_pos h2] at hrd
  subst hrd
  unfold f32c6
  refine ev_load 1 hp rfl rfl rfl (Nat.le_of_ble_eq_true rfl) (x := (k, (0 : Int), false, (none, 0, 0), (0 : Int), (0 : Int), (0 : Int), (0 : Int), (none, 0, 0), ())) rfl ?_
  refine ev_store 2 hp rfl rfl (Nat.le_of_ble_eq_true rfl) rfl fun A9 hp => ?_
  unfold f32c5
  refine ev_load 2 hp rfl rfl rfl (Nat.le_of_ble_eq_true rfl) (x := (k, (0 : Int), false, (none, 0, 0), (0 : Int), (0 : Int), (0 : Int), (0 : Int), (none, 0, 0), ())) rfl ?_
  exact ev_pure (H A9 [] (none, 0, 0) (none, 0, 0) (hp.drop 3) .nil .nil rfl)
 have h2 := of_decide_eq_false h2
 rw [if_neg h2] at hrd
 refine ev_load 1 hp rfl rfl rfl (Nat.le_of_ble_eq_true rfl) (x := k) rfl ?_
 unfold f32c15
 refine ev_join (fun _ A' => ∃ D d e, Hp (tabsOf os) A' (rdr b1 t1 false false st.2.1 st.2.2 :: .cells b3 (rwC st.1 d e) t3 false (0, 0) false :: .cells b0 (rwC (row0 0) (none, 0, 0) (none, 0, 0)) t0 false (0, 0) false :: (D ++ l)) ∧
  SeesB (tabsOf os) D d.1 d.2.1 st.1.data ∧ RowsAt (tabsOf os) D e.1 e.2.1 2 (entC st.1.ents) ∧ e.2.1 = st.1.ents.length) ?_ fun go hgo => ?_
 ·rintro _ A9 ⟨D, d, e, hp, hsee, hro, he⟩
  refine ev_join (fun j A' => Hp (tabsOf os) A' (rdr b1 t1 false false st.2.1 st.2.2 :: .cells b3 (rwC st.1 d e) t3 false (0, 0) false :: .cells b0 (rwC st.1 d e) t0 false (0, 0) false :: (D ++ l)) ∧ j = (!st.2.2 && decide (st.2.1 = []), ())) ?_ fun go2 hgo2 => ?_
  ·rintro _ A10 ⟨hp, rfl⟩
   unfold f32c7
   refine ev_load 2 hp rfl rfl rfl (Nat.le_of_ble_eq_true rfl) (x := (st.1.kind, st.1.err, st.1.is, d, st.1.s1, st.1.s2, st.1.s3, st.1.s4, e, ())) rfl ?_
   have hh := H A10 D d e (hp.drop 3) hsee hro he
   rw [Bool.not_false, Bool.true_or, Bool.and_true] at hh
   exact ev_pure hh
  refine ev_load 1 hp rfl rfl rfl (Nat.le_of_ble_eq_true rfl) (x := (st.1.kind, st.1.err, st.1.is, d, st.1.s1, st.1.s2, st.1.s3, st.1.s4, e, ())) rfl ?_
  refine ev_load 0 hp rfl rfl rfl (Nat.le_of_ble_eq_true rfl) (x := st.2.2) rfl ?_
  unfold f32c9
  refine ev_ite (fun h3 => ?_) fun h3 => ?_
  ·refine ev_load 0 hp rfl rfl rfl (Nat.le_of_ble_eq_true rfl) (x := BA st.2.1) rfl ?_
   unfold f32c8
   refine ev_store 2 hp rfl rfl (Nat.le_of_ble_eq_true rfl) rfl fun A10 hp => ?_
   refine ev_load 0 hp rfl rfl rfl (Nat.le_of_ble_eq_true rfl) (x := BA st.2.1) rfl (ev_cond_t (by simp [veqv, veq1, BA_seq]) ?_)
   rw [show st0 = BA [] from rfl, BA_seq]
   exact hgo2 _ A10 ⟨hp, by rw [h3]; rfl⟩
  ·refine ev_store 2 hp rfl rfl (Nat.le_of_ble_eq_true rfl) rfl fun A10 hp => ?_
   exact hgo2 _ A10 ⟨hp, by rw [h3]; rfl⟩
 have fin : ∀ A' x rs bd, st = (x, rs, bd) → Hp (tabsOf os) A' (rdr b1 t1 false false rs bd :: .cells b3 (rwC x (none, 0, 0) (none, 0, 0)) t3 false (0, 0) false :: .cells b0 (rwC (row0 0) (none, 0, 0) (none, 0, 0)) t0 false (0, 0) false :: l) → x.data = [] → x.ents = [] → Ev (go ()) A' Q := fun A' x rs bd e hp hd he => by
  subst e
  refine hgo () A' ⟨[], (none, 0, 0), (none, 0, 0), hp, ?_, ?_, ?_⟩
  ·rw [hd]; exact .nil
  ·rw [he]; exact .nil
  ·rw [he]; rfl
 clear H
 refine ev_ite (fun h3 => ?_) fun h3 => ?_
 ·rw [if_pos h3] at hrd
  refine ((rwordG rest b hrl hp fun A9 hp => ⟨_, rfl, ?_⟩).mono (show 4 ≤ 5 by decide)).use hn
  refine ev_ofStr hp fun bd A10 hp => ?_
  refine ev_store 2 hp rfl rfl (Nat.le_of_ble_eq_true rfl) rfl fun A11 hp => ?_
  have hp := (((hp.front 3 rfl).front 3 rfl).front 3 rfl)
  refine hgo () A11 ⟨[.vec 5 1 true (some ⟨bd, 0, none⟩) (rwordV rest).1.length (rwordV rest).1.length (u8s (rwordV rest).1)], (some ⟨bd, 0, none⟩, (rwordV rest).1.length, (rwordV rest).1.length), (none, 0, 0), ?_, ?_, ?_, ?_⟩
  ·rw [hrd]; exact hp
  ·rw [hrd]; exact .vec (List.mem_singleton.2 rfl) rfl
  ·rw [hrd]; exact .nil
  ·rw [hrd]; rfl
 rw [if_neg (by rw [h3]; decide)] at hrd
 unfold f32c14
 refine ev_ite (fun h4 => ?_) fun h4 => ?_
 ·rw [if_pos h4] at hrd
  have l1 := rnumV_len rest
  have l2 := rnumV_len (rnumV rest).2.1
  have l3 := rnumV_len (rnumV (rnumV rest).2.1).2.1
  refine ((rnumberG rest b (by omega) hp fun A9 hp => ⟨_, rfl, ?_⟩).mono (show 2 ≤ 5 by decide)).use hn
  refine ev_store 1 hp rfl rfl (Nat.le_of_ble_eq_true rfl) rfl fun A10 hp => ?_
  unfold f32c10
  refine ((rnumberG _ _ (by omega) hp fun A11 hp => ⟨_, rfl, ?_⟩).mono (show 2 ≤ 5 by decide)).use hn
  refine ev_store 1 hp rfl rfl (Nat.le_of_ble_eq_true rfl) rfl fun A12 hp => ?_
  refine ((rnumberG _ _ (by omega) hp fun A13 hp => ⟨_, rfl, ?_⟩).mono (show 2 ≤ 5 by decide)).use hn
  refine ev_store 1 hp rfl rfl (Nat.le_of_ble_eq_true rfl) rfl fun A14 hp => ?_
  refine ((rnumberG _ _ (by omega) hp fun A15 hp => ⟨_, rfl, ?_⟩).mono (show 2 ≤ 5 by decide)).use hn
  refine ev_store 1 hp rfl rfl (Nat.le_of_ble_eq_true rfl) rfl fun A16 hp => ?_
  exact fin A16 _ _ _ hrd hp rfl rfl
 rw [if_neg (by rw [h4]; decide)] at hrd
 refine ev_ite (fun h5 => ?_) fun h5 => ?_
 ·rw [if_pos h5] at hrd
  obtain ⟨E, hE⟩ : ∃ E, E = entsQ (rest.length + 1) rest b := ⟨_, rfl⟩
  rw [← hE] at hrd
  have hp := ((hp.vec0 71 2 false).front 2 rfl).front 2 rfl
  refine ev_bind (ev_LL (fun μ s37 A' => ∃ rs bd dn a j, μ = (if bd = true then 0 else rs.length + 1) ∧ s37 = () ∧ rs.length ≤ rest.length ∧ dn.length ≤ rest.length ∧ (bd = false → dn.length + rs.length ≤ rest.length ∧ rs.length < j) ∧ E = (dn ++ (entsQ j rs bd).1, (entsQ j rs bd).2) ∧
   Hp (tabsOf os) A' (rdr b1 t1 false false rs bd :: .cells b3 (rwC (row0 k) (none, 0, 0) (a, dn.length, dn.length)) t3 false (0, 0) false :: .vec 71 2 false a dn.length dn.length (entC dn) :: .cells b0 (rwC (row0 0) (none, 0, 0) (none, 0, 0)) t0 false (0, 0) false :: l))
   (m := if b = true then 0 else rest.length + 1) ⟨rest, b, [], none, rest.length + 1, rfl, rfl, Nat.le_refl _, by simp, fun _ => ⟨by simp, by omega⟩, by rw [hE]; simp, hp⟩ (by split <;> omega) ?_)
  rintro μ s37 A9 ⟨rs, bd, dn, a, j, rfl, rfl, hrs, hdn, hj, hev, hp⟩
  unfold f32c12
  have hstop : rs = [] ∨ bd = true → (entsQ j rs bd) = ([], rs, bd) := fun h => by
   cases j with
   | zero => rfl
   | succ j => rw [entsQ, if_pos h]
  refine ev_join (fun jj A' => Hp (tabsOf os) A' (rdr b1 t1 false false rs bd :: .cells b3 (rwC (row0 k) (none, 0, 0) (a, dn.length, dn.length)) t3 false (0, 0) false :: .vec 71 2 false a dn.length dn.length (entC dn) :: .cells b0 (rwC (row0 0) (none, 0, 0) (none, 0, 0)) t0 false (0, 0) false :: l) ∧ jj = (!decide (rs = []) && !bd, ())) ?_ fun go2 hgo2 => ?_
  rotate_left
  ·refine ev_load 0 hp rfl rfl rfl (Nat.le_of_ble_eq_true rfl) (x := BA rs) rfl ?_
   rw [show st0 = BA [] from rfl, BA_seq]
   refine ev_ite (fun h6 => ?_) fun h6 => ?_
   ·refine ev_load 0 hp rfl rfl rfl (Nat.le_of_ble_eq_true rfl) (x := bd) rfl ?_
    exact hgo2 _ A9 ⟨hp, by rw [h6]; rfl⟩
   ·exact hgo2 _ A9 ⟨hp, by rw [h6]; rfl⟩
  rintro _ A10 ⟨hp, rfl⟩
  refine ev_ite (fun h6 => ?_) fun h6 => ?_
  ·have h6 : (!decide (rs = []) && !bd) = true := h6
   have h7 : rs ≠ [] ∧ bd = false := by simpa using h6
   obtain ⟨h7, rfl⟩ := h7
   obtain ⟨hd1, hd2⟩ := hj rfl
   have h0 := List.length_pos_iff.2 h7
   obtain ⟨j, rfl⟩ : ∃ i, j = i + 1 := ⟨j - 1, by omega⟩
   rw [entsQ, if_neg (by simp [h7])] at hev
   have l1 := rnumV_len rs
   have l2 := (rwordV_len (rnumV rs).2.1).2
   refine ((rnumberG rs false (by omega) hp fun A11 hp => ⟨_, rfl, ?_⟩).mono (show 2 ≤ 5 by decide)).use hn
   refine ev_load 1 hp rfl rfl rfl (Nat.le_of_ble_eq_true rfl) (x := (a, dn.length, dn.length)) rfl ?_
   unfold f32c11
   refine ((rwordG _ _ (by omega) hp fun A12 hp => ⟨_, rfl, ?_⟩).mono (show 4 ≤ 5 by decide)).use hn
   refine ev_load 1 hp rfl rfl rfl (Nat.le_of_ble_eq_true rfl) (x := (a, dn.length, dn.length)) rfl (ev_cond_t (veqv_sl _) ?_)
   refine ev_new hp fun b44 A13 hp => ?_
   refine ev_append_row 3 0 hp rfl rfl (m := 1) rfl (by decide) (by decide) (by show (2 * (dn.length + 1) + 200) * 24 ≤ _; omega) rfl fun A14 a9 hp => ?_
   refine ev_store 2 hp rfl rfl (Nat.le_of_ble_eq_true rfl) rfl fun A15 hp => ?_
   have hsh : ((false || (rnumV rs).2.2) || (rwordV (rnumV rs).2.1).2.2) = false → (rwordV (rnumV rs).2.1).2.1.length < rs.length := fun e => by
    have e1 := (Bool.or_eq_false_iff.1 (Bool.or_eq_false_iff.1 e).1).2
    have := rnumV_short h7 e1
    omega
   refine ev_pure ⟨_, ?_, (rwordV (rnumV rs).2.1).2.1, (false || (rnumV rs).2.2) || (rwordV (rnumV rs).2.1).2.2, dn ++ [((rnumV rs).1, (rwordV (rnumV rs).2.1).1)], a9, j, rfl, rfl, by omega, ?_, fun e => ?_, ?_, ?_⟩
   ·rw [if_neg (show ¬ false = true by decide)]
    split
    ·omega
    ·rename_i e
     have := hsh (by simpa using e)
     omega
   ·rw [List.length_append]; simp only [List.length_cons, List.length_nil]; omega
   ·have := hsh e
    rw [List.length_append]; simp only [List.length_cons, List.length_nil]; omega
   ·rw [hev, List.append_assoc]; rfl
   ·rw [List.length_append, entC_append]
    exact hp.tail
  ·have h6 : (!decide (rs = []) && !bd) = false := h6
   have h7 : rs = [] ∨ bd = true := by
    by_cases e : rs = []
    ·exact .inl e
    ·right; simpa [e] using h6
   rw [hstop h7, List.append_nil] at hev
   rw [hev] at hrd
   refine ev_pure (hgo () A10 ⟨[.vec 71 2 false a dn.length dn.length (entC dn)], (none, 0, 0), (a, dn.length, dn.length), ?_, ?_, ?_, ?_⟩)
   ·rw [hrd]; exact hp.perm (.cons _ (.cons _ (.swap ..)))
   ·rw [hrd]; exact .nil
   ·rw [hrd]; exact .vec (List.mem_singleton.2 rfl) (entC_len _)
   ·rw [hrd]
 rw [if_neg (by rw [h5]; decide)] at hrd
 refine ev_join (fun j A' => Hp (tabsOf os) A' (rdr b1 t1 false false rest b :: .cells b3 (rwC (row0 k) (none, 0, 0) (none, 0, 0)) t3 false (0, 0) false :: .cells b0 (rwC (row0 0) (none, 0, 0) (none, 0, 0)) t0 false (0, 0) false :: l) ∧ j = ((eqB k 15 || eqB k 16), ())) ?_ fun go2 hgo2 => ?_
 rotate_left
 ·refine ev_ite (fun h6 => hgo2 _ A8 ⟨hp, by rw [h6]; rfl⟩) fun h6 => ?_
  exact hgo2 _ A8 ⟨hp, by rw [h6]; rfl⟩
 rintro _ A9 ⟨hp, rfl⟩
 refine ev_ite (fun h6 => ?_) fun h6 => ?_
 ·have h6 : (eqB k 15 || eqB k 16) = true := h6
  rw [if_pos h6] at hrd
  unfold f32c13
  have hb2 := blankV_len rest
  refine ((rblankG rest b hp fun A10 hp => ⟨(), rfl, ?_⟩).mono (show 1 ≤ 5 by decide)).use hn
  refine ((rlettersG (blankV rest).1 _ (by omega) hp fun A11 hp => ⟨_, rfl, ?_⟩).mono (show 1 ≤ 5 by decide)).use hn
  rw [show st23 = BA [121, 101, 115] from rfl, show st24 = BA [110, 111] from rfl, BA_seq, BA_seq]
  refine ev_store 1 hp rfl rfl (Nat.le_of_ble_eq_true rfl) rfl fun A12 hp => ?_
  generalize (lettersV (blankV rest).1).1 = w at *
  generalize (lettersV (blankV rest).1).2 = rs at *
  generalize (b || (blankV rest).2) = bd at *
  refine ev_join (fun j A' => Hp (tabsOf os) A' (rdr b1 t1 false false rs bd :: .cells b3 (rwC ⟨k, 0, decide (w = [121, 101, 115]), [], 0, 0, 0, 0, []⟩ (none, 0, 0) (none, 0, 0)) t3 false (0, 0) false :: .cells b0 (rwC (row0 0) (none, 0, 0) (none, 0, 0)) t0 false (0, 0) false :: l) ∧
   j = (!decide (w = [121, 101, 115]) && !decide (w = [110, 111]), ())) ?_ fun go3 hgo3 => ?_
  rotate_left
  ·refine ev_load 1 hp rfl rfl rfl (Nat.le_of_ble_eq_true rfl) (x := decide (w = [121, 101, 115])) rfl ?_
   refine ev_ite (fun h7 => hgo3 _ A12 ⟨hp, by rw [h7]; rfl⟩) fun h7 => hgo3 _ A12 ⟨hp, by rw [h7]; rfl⟩
  rintro _ A13 ⟨hp, rfl⟩
  refine ev_ite (fun h7 => ?_) fun h7 => ?_
  ·have h7 : (!decide (w = [121, 101, 115]) && !decide (w = [110, 111])) = true := h7
   rw [h7, Bool.or_true] at hrd
   refine ev_store 0 hp rfl rfl (Nat.le_of_ble_eq_true rfl) rfl fun A14 hp => ?_
   exact fin A14 _ _ _ hrd hp rfl rfl
  ·have h7 : (!decide (w = [121, 101, 115]) && !decide (w = [110, 111])) = false := h7
   rw [h7, Bool.or_false] at hrd
   exact fin A13 _ _ _ hrd hp rfl rfl
 ·have h6 : (eqB k 15 || eqB k 16) = false := h6
  rw [if_neg (by rw [h6]; decide)] at hrd
  exact fin A9 _ _ _ hrd hp rfl rfl
end
end Go.Proofs.YtlcigkdflbfdgaaGreatDoor.sg
