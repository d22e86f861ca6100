/-
  Walks: R4, R5, R6, R7.
-/
import Derived.Test.YtlcigkdflbfdgaaGreatDoorSfR3
import Derived.Test.YtlcigkdflbfdgaaGreatDoorSfWV
import Derived.Test.YtlcigkdflbfdgaaGreatDoorSfWY
namespace Go.Proofs.YtlcigkdflbfdgaaGreatDoor.sf
set_option linter.unusedVariables false
open Go Go.Eng Go.Sh
def rstepP (is : Bool) (st : St) : St := if is && !st.2.2 then ({ st.1 with p := (rwordV st.2.1).1 }, (rwordV st.2.1).2.1, st.2.2 || (rwordV st.2.1).2.2) else st
def rstepQ (is : Bool) (st : St) : St := if is && !st.2.2 then ({ st.1 with q := (rwordV st.2.1).1 }, (rwordV st.2.1).2.1, st.2.2 || (rwordV st.2.1).2.2) else st
noncomputable def rstepA (is : Bool) (st : St) : St := if is && !st.2.2 then ({ st.1 with a := (rnumV st.2.1).1 }, (rnumV st.2.1).2.1, st.2.2 || (rnumV st.2.1).2.2) else st
noncomputable def rstepB (is : Bool) (st : St) : St := if is && !st.2.2 then ({ st.1 with b := (rnumV st.2.1).1 }, (rnumV st.2.1).2.1, st.2.2 || (rnumV st.2.1).2.2) else st
def rstepD (is : Bool) (st : St) : St := if is && !st.2.2 then ({ st.1 with data := (rwordV st.2.1).1 }, (rwordV st.2.1).2.1, st.2.2 || (rwordV st.2.1).2.2) else st
noncomputable def refE0 (s : List UInt8) : St := (⟨(rkindV s).1, [], [], 0, 0, []⟩, (rkindV s).2.1, (rkindV s).2.2)
noncomputable def refE (s : List UInt8) : St :=
  rstepD (shapeV (rkindV s).1).2.2.2.2 (rstepB (shapeV (rkindV s).1).2.2.2.1 (rstepA (shapeV (rkindV s).1).2.2.1 (rstepQ (shapeV (rkindV s).1).2.1 (rstepP (shapeV (rkindV s).1).1 (refE0 s)))))
noncomputable def refB (s : List UInt8) : Bool := !(refE s).2.2 && decide ((refE s).2.1 = [])
/-! ### There and back -/
theorem letters_back {w : List UInt8} (ps : List (List UInt8)) (hw : (32 : UInt8) ∉ w) : lettersV (w ++ tl ps) = (w, tl ps) := by
  unfold lettersV
  cases ps with
  | nil => rw [show w ++ tl [] = w by simp [tl], cutAt_of_not hw]; rfl
  | cons p ps => rw [show w ++ tl (p :: ps) = w ++ 32 :: (p ++ tl ps) from rfl, cutAt_app _ hw]; rfl
theorem rword_back (t : List UInt8) (ps : List (List UInt8)) : rwordV (tl (word t :: ps)) = (t, tl ps, false) := by
  unfold rwordV
  have e : blankV (tl (word t :: ps)) = (word t ++ tl ps, false) := by
    show blankV (32 :: (word t ++ tl ps)) = _
    rw [blankV_cons, if_pos rfl]
  rw [e]
  simp only [unqG_word]
theorem digs_dig {a d : Nat} (h : d < 10) : digsV a [UInt8.ofNat (48 + d)] = some (a * 10 + d) := by
  simp only [digsV, digit_nat h]
  rw [if_pos (by omega)]
  congr 1; omega
theorem digs_back (u : Nat) : digsV 0 (Lib.decDigits u) = some u := by
  induction u using Nat.strongRecOn with
  | _ u ih =>
    rw [Lib.decDigits]
    split
    · rename_i hu
      have := digs_dig (a := 0) hu
      rw [Nat.zero_mul, Nat.zero_add] at this
      exact this
    · rename_i hu
      rw [digsV_app _ _ _ _ (ih (u / 10) (by omega)), digs_dig (by omega)]
      congr 1; omega
theorem numT_back {n : Int} (h : -9223372036854775808 ≤ n ∧ n ≤ 9223372036854775807) : numT (Lib.itoa n) = (n, false) := by
  have hl := digits_len 18 n.natAbs (by omega)
  have hne := digits_ne n.natAbs
  unfold numT
  by_cases hn : n < 0
  · have e : Lib.itoa n = 45 :: Lib.decDigits n.natAbs := if_pos hn
    have e1 : (Lib.itoa n).head? = some 45 := by rw [e]; rfl
    have e2 : (if (Lib.itoa n).head? = some 45 then (Lib.itoa n).drop 1 else Lib.itoa n) = Lib.decDigits n.natAbs := by rw [if_pos e1, e]; rfl
    have ez : wrapW .i64 (subW .u64 0 ((n.natAbs : Nat) : Int)) = n := by
      rw [subW_eq, IntKind.wrap_u64, wrapW_eq, wrap_i64']
      split <;> omega
    rw [e2, if_neg (by intro h2; rcases h2 with h2 | h2; exact hne h2; omega), digs_back]
    simp only [if_pos e1, ez]
    simp
  · have e : Lib.itoa n = Lib.decDigits n.natAbs := by
      unfold Lib.itoa
      rw [if_neg hn, show n.toNat = n.natAbs by omega]
    have e1 : ¬ (Lib.itoa n).head? = some 45 := fun h1 => by
      rw [e] at h1
      cases hd : Lib.decDigits n.natAbs with
      | nil => exact hne hd
      | cons c t =>
        rw [hd] at h1
        obtain rfl := Option.some.inj h1
        have := digits_mem n.natAbs 45 (by rw [hd]; exact .head _)
        exact absurd this.1 (by decide)
    have e2 : (if (Lib.itoa n).head? = some 45 then (Lib.itoa n).drop 1 else Lib.itoa n) = Lib.decDigits n.natAbs := by rw [if_neg e1, e]
    have ez : wrapW .i64 ((n.natAbs : Nat) : Int) = n := by
      rw [wrapW_eq, wrap_i64']
      split <;> omega
    rw [e2, if_neg (by intro h2; rcases h2 with h2 | h2; exact hne h2; omega), digs_back]
    simp only [if_neg e1, ez]
    simp
theorem rnum_back {n : Int} (h : -9223372036854775808 ≤ n ∧ n ≤ 9223372036854775807) (ps : List (List UInt8)) : rnumV (tl (Lib.itoa n :: ps)) = (n, tl ps, false) := by
  unfold rnumV
  have e : blankV (tl (Lib.itoa n :: ps)) = (Lib.itoa n ++ tl ps, false) := by
    show blankV (32 :: (Lib.itoa n ++ tl ps)) = _
    rw [blankV_cons, if_pos rfl]
  rw [e]
  simp only [letters_back ps (itoa_no (by decide)), numT_back h, Bool.or_self]
theorem rkind_back {k : Int} (h : nameV k ≠ []) (ps : List (List UInt8)) : rkindV (nameV k ++ tl ps) = (k, tl ps, false) := by
  obtain ⟨h1, h2, h3, _⟩ := kind_ok h
  unfold rkindV
  rw [letters_back ps h3]
  simp only [h2]
  rw [if_pos h1.1]
theorem rstepP_back (is : Bool) (e : Evt) (p : List UInt8) (ps : List (List UInt8)) (h : is = false → e.p = p) : rstepP is (e, tl (opt is (word p) ++ ps), false) = ({ e with p := p }, tl ps, false) := by
  unfold rstepP opt
  cases is
  · rw [← h rfl]; rfl
  · simp only [Bool.not_false, Bool.and_self, if_true, List.singleton_append, rword_back p ps]
    rfl
theorem rstepQ_back (is : Bool) (e : Evt) (p : List UInt8) (ps : List (List UInt8)) (h : is = false → e.q = p) : rstepQ is (e, tl (opt is (word p) ++ ps), false) = ({ e with q := p }, tl ps, false) := by
  unfold rstepQ opt
  cases is
  · rw [← h rfl]; rfl
  · simp only [Bool.not_false, Bool.and_self, if_true, List.singleton_append, rword_back p ps]
    rfl
theorem rstepA_back (is : Bool) (e : Evt) (n : Int) (hn : -9223372036854775808 ≤ n ∧ n ≤ 9223372036854775807) (ps : List (List UInt8)) (h : is = false → e.a = n) : rstepA is (e, tl (opt is (Lib.itoa n) ++ ps), false) = ({ e with a := n }, tl ps, false) := by
  unfold rstepA opt
  cases is
  · rw [← h rfl]; rfl
  · simp only [Bool.not_false, Bool.and_self, if_true, List.singleton_append, rnum_back hn ps]
    rfl
theorem rstepB_back (is : Bool) (e : Evt) (n : Int) (hn : -9223372036854775808 ≤ n ∧ n ≤ 9223372036854775807) (ps : List (List UInt8)) (h : is = false → e.b = n) : rstepB is (e, tl (opt is (Lib.itoa n) ++ ps), false) = ({ e with b := n }, tl ps, false) := by
  unfold rstepB opt
  cases is
  · rw [← h rfl]; rfl
  · simp only [Bool.not_false, Bool.and_self, if_true, List.singleton_append, rnum_back hn ps]
    rfl
theorem rstepD_back (is : Bool) (e : Evt) (p : List UInt8) (h : is = false → e.data = p) : rstepD is (e, tl (opt is (word p)), false) = ({ e with data := p }, [], false) := by
  unfold rstepD opt
  cases is
  · rw [← h rfl]; rfl
  · simp only [Bool.not_false, Bool.and_self, if_true, rword_back p []]
    rfl
theorem refE_line {e : Evt} (hn : Nums e) (h : notE e = false) : refE (lineV e) = (e, [], false) := by
  obtain ⟨h0, h1, h2, h3, h4, h5⟩ := notE_no h
  have hk : rkindV (lineV e) = (e.kind, tl (partsE e), false) := by
    rw [lineV_eq]; exact rkind_back h0 _
  unfold refE refE0
  rw [hk]
  unfold partsE
  rw [rstepP_back _ _ e.p _ (fun i => (h1 i).symm), rstepQ_back _ _ e.q _ (fun i => (h2 i).symm), rstepA_back _ _ e.a hn.1 _ (fun i => (h3 i).symm), rstepB_back _ _ e.b hn.2 _ (fun i => (h4 i).symm), rstepD_back _ _ e.data (fun i => (h5 i).symm)]
/-! ### What was read is a line -/
theorem blank_inv {s : List UInt8} (h : (blankV s).2 = false) : s = 32 :: (blankV s).1 := by
  cases s with
  | nil => cases h
  | cons c t =>
    rw [blankV_cons] at h ⊢
    split at h
    · rename_i hc; rw [if_pos hc, hc]
    · cases h
theorem letters_inv (s : List UInt8) : s = (lettersV s).1 ++ (lettersV s).2 := by
  unfold lettersV
  cases h : cutAt 32 s with
  | none => simp
  | some p => exact (cutAt_some h).1
theorem rword_inv {s : List UInt8} (h : (rwordV s).2.2 = false) : s = tl [word (rwordV s).1] ++ (rwordV s).2.1 := by
  unfold rwordV at h ⊢
  cases hq : unqG (blankV s).1 with
  | none => rw [hq] at h; cases h
  | some p =>
    rw [hq] at h
    simp only at h ⊢
    have h1 := blank_inv h
    have h2 := unqG_some (b := p.1) (rest := p.2) hq
    conv => lhs; rw [h1, h2]
    simp [tl]
theorem rnum_inv {s : List UInt8} (h : (rnumV s).2.2 = false) : s = tl [Lib.itoa (rnumV s).1] ++ (rnumV s).2.1 := by
  unfold rnumV at h ⊢
  simp only [Bool.or_eq_false_iff] at h
  have h1 := blank_inv h.1
  have h2 := letters_inv (blankV s).1
  have h3 : Lib.itoa (numT (lettersV (blankV s).1).1).1 = (lettersV (blankV s).1).1 := by
    have h4 := h.2
    generalize (lettersV (blankV s).1).1 = t at *
    unfold numT at h4 ⊢
    generalize (if t.head? = some 45 then t.drop 1 else t) = d at *
    by_cases hc : d = [] ∨ 19 < d.length
    · rw [if_pos hc] at h4; cases h4
    · rw [if_neg hc] at h4 ⊢
      cases hu : digsV 0 d with
      | none => rw [hu] at h4; cases h4
      | some u =>
        rw [hu] at h4
        simpa using h4
  simp only
  rw [h3]
  conv => lhs; rw [h1, h2]
  simp [tl]
theorem rkind_inv {s : List UInt8} (h : (rkindV s).2.2 = false) : nameV (rkindV s).1 ≠ [] ∧ s = nameV (rkindV s).1 ++ (rkindV s).2.1 := by
  unfold rkindV at h ⊢
  split at h
  · rename_i h1
    rw [if_pos h1]
    simp only
    have hn : nameV (idxV kindL (lettersV s).1) = (lettersV s).1 := by
      unfold idxV at h1 ⊢
      split at h1
      · rename_i hm
        rw [if_pos hm]
        have hj := List.idxOf_lt_length_of_mem hm
        have hj' := hj
        rw [kindL_len] at hj
        unfold nameV
        rw [if_neg (by omega), Int.toNat_natCast, List.getD_eq_getElem?_getD, List.getElem?_eq_getElem hj']
        exact List.getElem_idxOf _
      · omega
    refine ⟨fun e => ?_, ?_⟩
    · rw [hn] at e
      have h2 : idxV kindL [] = 0 := by kernel_rfl
      rw [e, h2] at h1
      omega
    · rw [hn]; exact letters_inv s
  · cases h
theorem rstepP_inv {is : Bool} {st : St} (h : (rstepP is st).2.2 = false) : st.2.2 = false ∧ st.2.1 = tl (opt is (word (rstepP is st).1.p)) ++ (rstepP is st).2.1 ∧ (rstepP is st).1 = { st.1 with p := (rstepP is st).1.p } ∧ (is = false → (rstepP is st).1.p = st.1.p) := by
  unfold rstepP opt at *
  cases is with
  | false => exact ⟨h, rfl, rfl, fun _ => rfl⟩
  | true =>
    cases hb : st.2.2 with
    | true => rw [hb] at h; simp only [Bool.not_true, Bool.and_false] at h; exact absurd (hb.symm.trans h) (by decide)
    | false =>
      rw [hb] at h
      exact ⟨rfl, rword_inv h, rfl, fun h => by cases h⟩
theorem rstepQ_inv {is : Bool} {st : St} (h : (rstepQ is st).2.2 = false) : st.2.2 = false ∧ st.2.1 = tl (opt is (word (rstepQ is st).1.q)) ++ (rstepQ is st).2.1 ∧ (rstepQ is st).1 = { st.1 with q := (rstepQ is st).1.q } ∧ (is = false → (rstepQ is st).1.q = st.1.q) := by
  unfold rstepQ opt at *
  cases is with
  | false => exact ⟨h, rfl, rfl, fun _ => rfl⟩
  | true =>
    cases hb : st.2.2 with
    | true => rw [hb] at h; simp only [Bool.not_true, Bool.and_false] at h; exact absurd (hb.symm.trans h) (by decide)
    | false =>
      rw [hb] at h
      exact ⟨rfl, rword_inv h, rfl, fun h => by cases h⟩
theorem rstepA_inv {is : Bool} {st : St} (h : (rstepA is st).2.2 = false) : st.2.2 = false ∧ st.2.1 = tl (opt is (Lib.itoa (rstepA is st).1.a)) ++ (rstepA is st).2.1 ∧ (rstepA is st).1 = { st.1 with a := (rstepA is st).1.a } ∧ (is = false → (rstepA is st).1.a = st.1.a) := by
  unfold rstepA opt at *
  cases is with
  | false => exact ⟨h, rfl, rfl, fun _ => rfl⟩
  | true =>
    cases hb : st.2.2 with
    | true => rw [hb] at h; simp only [Bool.not_true, Bool.and_false] at h; exact absurd (hb.symm.trans h) (by decide)
    | false =>
      rw [hb] at h
      exact ⟨rfl, rnum_inv h, rfl, fun h => by cases h⟩
theorem rstepB_inv {is : Bool} {st : St} (h : (rstepB is st).2.2 = false) : st.2.2 = false ∧ st.2.1 = tl (opt is (Lib.itoa (rstepB is st).1.b)) ++ (rstepB is st).2.1 ∧ (rstepB is st).1 = { st.1 with b := (rstepB is st).1.b } ∧ (is = false → (rstepB is st).1.b = st.1.b) := by
  unfold rstepB opt at *
  cases is with
  | false => exact ⟨h, rfl, rfl, fun _ => rfl⟩
  | true =>
    cases hb : st.2.2 with
    | true => rw [hb] at h; simp only [Bool.not_true, Bool.and_false] at h; exact absurd (hb.symm.trans h) (by decide)
    | false =>
      rw [hb] at h
      exact ⟨rfl, rnum_inv h, rfl, fun h => by cases h⟩
theorem rstepD_inv {is : Bool} {st : St} (h : (rstepD is st).2.2 = false) : st.2.2 = false ∧ st.2.1 = tl (opt is (word (rstepD is st).1.data)) ++ (rstepD is st).2.1 ∧ (rstepD is st).1 = { st.1 with data := (rstepD is st).1.data } ∧ (is = false → (rstepD is st).1.data = st.1.data) := by
  unfold rstepD opt at *
  cases is with
  | false => exact ⟨h, rfl, rfl, fun _ => rfl⟩
  | true =>
    cases hb : st.2.2 with
    | true => rw [hb] at h; simp only [Bool.not_true, Bool.and_false] at h; exact absurd (hb.symm.trans h) (by decide)
    | false =>
      rw [hb] at h
      exact ⟨rfl, rword_inv h, rfl, fun h => by cases h⟩
theorem refE_inv {s : List UInt8} (h : refB s = true) : lineO (refE s).1 = some s := by
  unfold refB at h
  simp only [Bool.and_eq_true, Bool.not_eq_true', decide_eq_true_eq] at h
  obtain ⟨hb, hr⟩ := h
  unfold refE at hb hr ⊢
  obtain ⟨y, hy⟩ : ∃ y, y = shapeV (rkindV s).1 := ⟨_, rfl⟩
  rw [← hy] at hb hr ⊢
  obtain ⟨b4, r5, e5, z5⟩ := rstepD_inv hb
  obtain ⟨b3, r4, e4, z4⟩ := rstepB_inv b4
  obtain ⟨b2, r3, e3, z3⟩ := rstepA_inv b3
  obtain ⟨b1, r2, e2, z2⟩ := rstepQ_inv b2
  obtain ⟨b0, r1, e1, z1⟩ := rstepP_inv b1
  obtain ⟨hne, hs⟩ := rkind_inv b0
  generalize hst1 : rstepP y.1 (refE0 s) = st1 at *
  generalize hst2 : rstepQ y.2.1 st1 = st2 at *
  generalize hst3 : rstepA y.2.2.1 st2 = st3 at *
  generalize hst4 : rstepB y.2.2.2.1 st3 = st4 at *
  generalize hst5 : rstepD y.2.2.2.2 st4 = st5 at *
  have e0 : (refE0 s).1 = ⟨(rkindV s).1, [], [], 0, 0, []⟩ := rfl
  rw [e0] at e1 z1
  rw [e1] at e2 z2
  rw [e2] at e3 z3
  rw [e3] at e4 z4
  rw [e4] at e5 z5
  simp only at z1 z2 z3 z4 z5
  -- the fields
  obtain ⟨x5, rr5, bb5⟩ := st5
  simp only at *
  have k5 : x5.kind = (rkindV s).1 := by rw [e5]
  have p5 : x5.p = st1.1.p := by rw [e5]
  have q5 : x5.q = st2.1.q := by rw [e5]
  have a5 : x5.a = st3.1.a := by rw [e5]
  have b5 : x5.b = st4.1.b := by rw [e5]
  rw [← k5] at hy hne hs
  rw [← p5] at z1 r1
  rw [← q5] at z2 r2
  rw [← a5] at z3 r3
  rw [← b5] at z4 r4
  rw [show (rkindV s).2.1 = (refE0 s).2.1 from rfl, r1, r2, r3, r4, r5, hr, List.append_nil, ← tl_append, ← tl_append, ← tl_append, ← tl_append] at hs
  have hparts : partsE x5 = opt y.1 (word x5.p) ++ (opt y.2.1 (word x5.q) ++ (opt y.2.2.1 (Lib.itoa x5.a) ++ (opt y.2.2.2.1 (Lib.itoa x5.b) ++ opt y.2.2.2.2 (word x5.data)))) := by
    rw [hy]; rfl
  rw [← hparts, ← lineV_eq] at hs
  have hno : notE x5 = false := by
    unfold notE
    rw [← hy]
    simp only [Bool.or_eq_false_iff, Bool.and_eq_false_iff, decide_eq_false_iff_not, Bool.not_eq_false', decide_eq_true_eq, eqB_eq, beq_iff_eq]
    refine ⟨hne, ?_, ?_, ?_, ?_, ?_⟩
    · cases hc : y.1 with
      | true => exact .inl rfl
      | false => exact .inr (z1 hc)
    · cases hc : y.2.1 with
      | true => exact .inl rfl
      | false => exact .inr (z2 hc)
    · cases hc : y.2.2.1 with
      | true => exact .inl rfl
      | false => exact .inr (z3 hc)
    · cases hc : y.2.2.2.1 with
      | true => exact .inl rfl
      | false => exact .inr (z4 hc)
    · cases hc : y.2.2.2.2 with
      | true => exact .inl rfl
      | false => exact .inr (by rw [z5 hc]; rfl)
  unfold lineO
  rw [if_neg (by rw [hno]; decide), ← hs]
theorem rstep_nums {st : St} (h : Nums st.1) (is : Bool) : Nums (rstepP is st).1 ∧ Nums (rstepQ is st).1 ∧ Nums (rstepA is st).1 ∧ Nums (rstepB is st).1 ∧ Nums (rstepD is st).1 := by
  have hn : -9223372036854775808 ≤ (rnumV st.2.1).1 ∧ (rnumV st.2.1).1 ≤ 9223372036854775807 := numT_in _
  unfold rstepP rstepQ rstepA rstepB rstepD
  cases is && !st.2.2
  · exact ⟨h, h, h, h, h⟩
  · exact ⟨h, h, ⟨hn, h.2⟩, ⟨h.1, hn⟩, h⟩
theorem refE_nums (s : List UInt8) : Nums (refE s).1 := by
  have h0 : Nums (refE0 s).1 := ⟨by simp [refE0], by simp [refE0]⟩
  unfold refE
  exact (rstep_nums (rstep_nums (rstep_nums (rstep_nums (rstep_nums h0 _).1 _).2.1 _).2.2.1 _).2.2.2.1 _).2.2.2.2
/-- Both read the same. -/
theorem ref_event (s : List UInt8) : (if refB s then some (refE s).1 else none) = eventV s := by
  cases h : refB s with
  | true => exact (event_line (refE_nums s) (refE_inv h)).symm
  | false =>
    cases hx : eventV s with
    | none => rfl
    | some x =>
      have hl := line_event hx
      have hn : Nums x := by
        unfold eventV at hx
        split at hx
        · obtain rfl := Option.some.inj hx
          have f := fineE s
          exact ⟨f.a, f.b⟩
        · cases hx
      have hno : notE x = false := by
        unfold lineO at hl
        split at hl
        · cases hl
        · rename_i h2; simpa using h2
      have hs : s = lineV x := by
        unfold lineO at hl
        rw [if_neg (by rw [hno]; decide)] at hl
        exact (Option.some.inj hl).symm
      have hr := refE_line hn hno
      rw [← hs] at hr
      unfold refB at h
      rw [hr] at h
      cases h
end Go.Proofs.YtlcigkdflbfdgaaGreatDoor.sf
namespace Go.Proofs.YtlcigkdflbfdgaaGreatDoor.sf
set_option linter.unusedVariables false
open Go Go.Eng Go.Sh
section
variable {os : List (Nat × AObj)} {A : AW} {Q : Value → AW → Prop} {l : List Thing}
/-- A reader, an event. -/
abbrev rvs (b1 b3 t1 t3 : Nat) (st : St) (d : SL) (m : List Thing) : List Thing := rdr b1 t1 false false st.2.1 st.2.2 :: .cells b3 (evtC st.1 d) t3 false (0, 0) false :: m
/-- Is it taken? -/
theorem rcond {b1 b3 t1 t3 : Nat} {m : List Thing} (is : Bool) (st : St) (d : SL) {m1 m2 : M Value} (hp : Hp (tabsOf os) A (rvs b1 b3 t1 t3 st d m)) (h1 : (is && !st.2.2) = true → ∀ A', Hp (tabsOf os) A' (rvs b1 b3 t1 t3 st d m) → Ev m1 A' Q) (h2 : (is && !st.2.2) = false → ∀ A', Hp (tabsOf os) A' (rvs b1 b3 t1 t3 st d m) → Ev m2 A' Q) :
    Ev (M.join (fun (j : (Bool) × Unit) => M.ite j.1 m1 m2) fun go => M.ite is (M.load (.cell .bool) 1 ((Addr.mk b1 0 none).add 1) fun (x : Bool) => go ((!x), ())) (go (false, ()))) A Q := by
  refine ev_join (fun j A' => Hp (tabsOf os) A' (rvs b1 b3 t1 t3 st d m) ∧ j = ((is && !st.2.2), ())) ?_ fun go hgo => ?_
  · rintro _ A1 ⟨hp, rfl⟩
    exact ev_ite (fun h => h1 h A1 hp) fun h => h2 h A1 hp
  · cases is with
    | false => exact ev_f rfl (hgo _ A ⟨hp, rfl⟩)
    | true => exact ev_t rfl (ev_load 0 hp rfl rfl rfl (Nat.le_of_ble_eq_true rfl) (x := st.2.2) rfl (hgo _ A ⟨hp, rfl⟩))
theorem refFine {N : Nat} {st : St} (h : Fine N st) (is : Bool) : Fine N (rstepP is st) ∧ Fine N (rstepQ is st) ∧ Fine N (rstepA is st) ∧ Fine N (rstepB is st) ∧ Fine N (rstepD is st) := by
  have hr := h.rest
  have hn : -9223372036854775808 ≤ (rnumV st.2.1).1 ∧ (rnumV st.2.1).1 ≤ 9223372036854775807 := numT_in _
  have hw : (rwordV st.2.1).1.length ≤ N ∧ (rwordV st.2.1).2.1.length ≤ N := by
    have hb := blankV_len st.2.1
    unfold rwordV
    cases hq : unqG (blankV st.2.1).1 with
    | none => simp
    | some p =>
      have h1 := unqG_some (b := p.1) (rest := p.2) hq
      have h2 := congrArg List.length h1
      have h3 := inside_len p.1
      have h4 : (word p.1).length = (inside p.1).length + 2 := by unfold word; simp
      rw [List.length_append] at h2
      simp only
      omega
  have hl : (rnumV st.2.1).2.1.length ≤ N := by
    have h1 := blankV_len st.2.1
    have h2 := (lettersV_len (blankV st.2.1).1).2
    show (lettersV (blankV st.2.1).1).2.length ≤ N
    omega
  unfold rstepP rstepQ rstepA rstepB rstepD
  cases is && !st.2.2
  · exact ⟨h, h, h, h, h⟩
  · exact ⟨⟨hw.2, hw.1, h.q, h.data, h.a, h.b⟩, ⟨hw.2, h.p, hw.1, h.data, h.a, h.b⟩, ⟨hl, h.p, h.q, h.data, hn, h.b⟩, ⟨hl, h.p, h.q, h.data, h.a, hn⟩, ⟨hw.2, h.p, h.q, hw.1, h.a, h.b⟩⟩
theorem refFine0 (s : List UInt8) : Fine s.length (refE0 s) := by
  refine ⟨?_, by simp [refE0], by simp [refE0], by simp [refE0], by simp [refE0], by simp [refE0]⟩
  show (rkindV s).2.1.length ≤ s.length
  have := (lettersV_len s).2
  unfold rkindV
  split <;> exact this
theorem ref_keep {is : Bool} {st : St} : (rstepP is st).1.data = st.1.data ∧ (rstepQ is st).1.data = st.1.data ∧ (rstepA is st).1.data = st.1.data ∧ (rstepB is st).1.data = st.1.data := by
  unfold rstepP rstepQ rstepA rstepB
  cases is && !st.2.2 <;> exact ⟨rfl, rfl, rfl, rfl⟩
theorem refEventG (s : List UInt8) (hs : s.length < 2 ^ 36) (hp : Hp (tabsOf os) A l)
    (H : ∀ A' D d, Hp (tabsOf os) A' (D ++ l) → SeesB (tabsOf os) D d.1 d.2.1 (refE s).1.data → Q (.tuple ⟨[.agg ⟨evtC (refE s).1 d⟩, .bool (refB s)]⟩) A') : Goes (XX os) 6 24 [.string (BA s)] A Q := by
  refine t24 (d := 5) (BA s, ()) fun n hn => ?_
  unfold f24
  refine ev_new hp fun b0 A1 hp => ?_
  refine ev_new hp fun b1 A2 hp => ?_
  refine ((rkindG s false (by omega) hp fun A3 hp => ⟨_, rfl, ?_⟩).mono (show 2 ≤ 5 by decide)).use hn
  unfold f24c5
  refine ev_new hp fun b3 A4 hp => ?_
  refine ev_store 0 hp rfl rfl (Nat.le_of_ble_eq_true rfl) rfl fun A5 hp => ?_
  refine ev_load 0 hp rfl rfl rfl (Nat.le_of_ble_eq_true rfl) (x := (rkindV s).1) rfl ?_
  obtain ⟨y, hy⟩ : ∃ y, y = shapeV (rkindV s).1 := ⟨_, rfl⟩
  have hhas := refHasG (os := os) (rkindV s).1
  rw [← hy] at hhas
  refine (hhas.mono (show 1 ≤ 5 by decide)).use hn hp (x := (y.1, y.2.1, y.2.2.1, y.2.2.2.1, y.2.2.2.2, ())) rfl fun A6 hp => ?_
  have hp := hp.front 1 rfl
  rw [Bool.false_or] at hp
  obtain ⟨t0, t1, t3, hp⟩ : ∃ t0 t1 t3, Hp (tabsOf os) A6 (rvs b1 b3 t1 t3 (refE0 s) (none, 0, 0) (.cells b0 (evtC ⟨0, [], [], 0, 0, []⟩ (none, 0, 0)) t0 false (0, 0) false :: l)) := ⟨_, _, _, hp⟩
  have hE : refE s = rstepD y.2.2.2.2 (rstepB y.2.2.2.1 (rstepA y.2.2.1 (rstepQ y.2.1 (rstepP y.1 (refE0 s))))) := by rw [hy]; rfl
  have f0 := refFine0 s
  have f1 := (refFine f0 y.1).1
  have f2 := (refFine f1 y.2.1).2.1
  have f3 := (refFine f2 y.2.2.1).2.2.1
  have f4 := (refFine f3 y.2.2.2.1).2.2.2.1
  have d4 : (rstepB y.2.2.2.1 (rstepA y.2.2.1 (rstepQ y.2.1 (rstepP y.1 (refE0 s))))).1.data = [] := by
    rw [ref_keep.2.2.2, ref_keep.2.2.1, ref_keep.2.1, ref_keep.1]; rfl
  clear hy hhas
  unfold f24c4
  generalize hm : (.cells b0 (evtC ⟨0, [], [], 0, 0, []⟩ (none, 0, 0)) t0 false (0, 0) false :: l : List Thing) = mm at hp
  refine ev_join (fun _ A' => Hp (tabsOf os) A' (rvs b1 b3 t1 t3 (rstepP y.1 (refE0 s)) (none, 0, 0) mm)) ?_ fun go7 hgo7 => ?_
  rotate_left
  · refine rcond y.1 _ _ hp (fun h A7 hp => ?_) fun h A7 hp => hgo7 () A7 (by unfold rstepP; rw [if_neg (by rw [h]; decide)]; exact hp)
    refine ((rwordG _ _ (by have := f0.rest; omega) hp fun A8 hp => ⟨_, rfl, ?_⟩).mono (show 4 ≤ 5 by decide)).use hn
    refine ev_store 1 hp rfl rfl (Nat.le_of_ble_eq_true rfl) rfl fun A9 hp => hgo7 () A9 ?_
    unfold rstepP; rw [if_pos h]; exact hp
  rintro _ A7 hp
  generalize rstepP y.1 (refE0 s) = st1 at *
  refine ev_join (fun _ A' => Hp (tabsOf os) A' (rvs b1 b3 t1 t3 (rstepQ y.2.1 st1) (none, 0, 0) mm)) ?_ fun go9 hgo9 => ?_
  rotate_left
  · refine rcond y.2.1 _ _ hp (fun h A7 hp => ?_) fun h A7 hp => hgo9 () A7 (by unfold rstepQ; rw [if_neg (by rw [h]; decide)]; exact hp)
    refine ((rwordG _ _ (by have := f1.rest; omega) hp fun A8 hp => ⟨_, rfl, ?_⟩).mono (show 4 ≤ 5 by decide)).use hn
    refine ev_store 1 hp rfl rfl (Nat.le_of_ble_eq_true rfl) rfl fun A9 hp => hgo9 () A9 ?_
    unfold rstepQ; rw [if_pos h]; exact hp
  rintro _ A8 hp
  generalize rstepQ y.2.1 st1 = st2 at *
  unfold f24c3
  refine ev_join (fun _ A' => Hp (tabsOf os) A' (rvs b1 b3 t1 t3 (rstepA y.2.2.1 st2) (none, 0, 0) mm)) ?_ fun go11 hgo11 => ?_
  rotate_left
  · refine rcond y.2.2.1 _ _ hp (fun h A7 hp => ?_) fun h A7 hp => hgo11 () A7 (by unfold rstepA; rw [if_neg (by rw [h]; decide)]; exact hp)
    refine ((rnumberG _ _ (by have := f2.rest; omega) hp fun A8 hp => ⟨_, rfl, ?_⟩).mono (show 2 ≤ 5 by decide)).use hn
    refine ev_store 1 hp rfl rfl (Nat.le_of_ble_eq_true rfl) rfl fun A9 hp => hgo11 () A9 ?_
    unfold rstepA; rw [if_pos h]; exact hp
  rintro _ A9 hp
  generalize rstepA y.2.2.1 st2 = st3 at *
  refine ev_join (fun _ A' => Hp (tabsOf os) A' (rvs b1 b3 t1 t3 (rstepB y.2.2.2.1 st3) (none, 0, 0) mm)) ?_ fun go13 hgo13 => ?_
  rotate_left
  · refine rcond y.2.2.2.1 _ _ hp (fun h A7 hp => ?_) fun h A7 hp => hgo13 () A7 (by unfold rstepB; rw [if_neg (by rw [h]; decide)]; exact hp)
    refine ((rnumberG _ _ (by have := f3.rest; omega) hp fun A8 hp => ⟨_, rfl, ?_⟩).mono (show 2 ≤ 5 by decide)).use hn
    refine ev_store 1 hp rfl rfl (Nat.le_of_ble_eq_true rfl) rfl fun A9 hp => hgo13 () A9 ?_
    unfold rstepB; rw [if_pos h]; exact hp
  rintro _ A10 hp
  generalize rstepB y.2.2.2.1 st3 = st4 at *
  subst hm
  unfold f24c2
  refine ev_join (fun _ A' => ∃ D d, Hp (tabsOf os) A' (rvs b1 b3 t1 t3 (rstepD y.2.2.2.2 st4) d (.cells b0 (evtC ⟨0, [], [], 0, 0, []⟩ (none, 0, 0)) t0 false (0, 0) false :: (D ++ l))) ∧ SeesB (tabsOf os) D d.1 d.2.1 (rstepD y.2.2.2.2 st4).1.data) ?_ fun go15 hgo15 => ?_
  rotate_left
  · refine rcond y.2.2.2.2 _ _ hp (fun h A7 hp => ?_) fun h A7 hp => hgo15 () A7 ⟨[], (none, 0, 0), by unfold rstepD; rw [if_neg (by rw [h]; decide)]; exact hp, by unfold rstepD; rw [if_neg (by rw [h]; decide), d4]; exact .nil⟩
    refine ((rwordG _ _ (by have := f4.rest; omega) hp fun A8 hp => ⟨_, rfl, ?_⟩).mono (show 4 ≤ 5 by decide)).use hn
    refine ev_ofStr hp fun bd A9 hp => ?_
    refine ev_store 2 hp rfl rfl (Nat.le_of_ble_eq_true rfl) rfl fun A10 hp => hgo15 () A10 ⟨[.vec 5 1 true (some ⟨bd, 0, none⟩) (rwordV st4.2.1).1.length (rwordV st4.2.1).1.length (u8s (rwordV st4.2.1).1)], (some ⟨bd, 0, none⟩, (rwordV st4.2.1).1.length, (rwordV st4.2.1).1.length), ?_, ?_⟩
    · have hp := ((hp.front 3 rfl).front 3 rfl).front 3 rfl
      unfold rstepD; rw [if_pos h]; exact hp
    · unfold rstepD; rw [if_pos h]; exact .vec (List.mem_singleton.2 rfl) rfl
  rintro _ A11 ⟨D, d, hp, hsee⟩
  rw [← hE] at hp hsee
  unfold refB at H
  generalize refE s = st at *
  unfold f24c1
  refine ev_join (fun j A' => Hp (tabsOf os) A' (rvs b1 b3 t1 t3 st d (.cells b0 (evtC st.1 d) t0 false (0, 0) false :: (D ++ l))) ∧ j = (!st.2.2 && decide (st.2.1 = []), ())) ?_ fun go17 hgo17 => ?_
  · rintro _ A12 ⟨hp, rfl⟩
    refine ev_load 2 hp rfl rfl rfl (Nat.le_of_ble_eq_true rfl) (x := (st.1.kind, BA st.1.p, BA st.1.q, st.1.a, st.1.b, d, ())) rfl ?_
    exact ev_pure (H A12 D d (hp.drop 3) hsee)
  refine ev_load 1 hp rfl rfl rfl (Nat.le_of_ble_eq_true rfl) (x := (st.1.kind, BA st.1.p, BA st.1.q, st.1.a, st.1.b, d, ())) rfl ?_
  refine ev_load 0 hp rfl rfl rfl (Nat.le_of_ble_eq_true rfl) (x := st.2.2) rfl ?_
  unfold f24c0
  refine ev_ite (fun h1 => ?_) fun h1 => ?_
  · refine ev_load 0 hp rfl rfl rfl (Nat.le_of_ble_eq_true rfl) (x := BA st.2.1) rfl ?_
    refine ev_store 2 hp rfl rfl (Nat.le_of_ble_eq_true rfl) rfl fun A12 hp => ?_
    refine ev_load 0 hp rfl rfl rfl (Nat.le_of_ble_eq_true rfl) (x := BA st.2.1) rfl (ev_cond_t (by simp [veqv, veq1, BA_seq]) ?_)
    rw [show st0 = BA [] from rfl, BA_seq]
    exact hgo17 _ A12 ⟨hp, by rw [h1]; rfl⟩
  · refine ev_store 2 hp rfl rfl (Nat.le_of_ble_eq_true rfl) rfl fun A12 hp => ?_
    exact hgo17 _ A12 ⟨hp, by rw [h1]; rfl⟩
end
end Go.Proofs.YtlcigkdflbfdgaaGreatDoor.sf
namespace Go.Proofs.YtlcigkdflbfdgaaGreatDoor.sf
set_option linter.unusedVariables false
open Go Go.Eng Go.Sh
/-- The lines of a text; is the last one ended? -/
inductive Lines : List UInt8 → List (List UInt8) → Bool → Prop where
  | nil : Lines [] [] true
  | none {s : List UInt8} (h : s ≠ []) (hc : cutAt 10 s = none) : Lines s [s] false
  | some {s : List UInt8} {p : List UInt8 × List UInt8} {t : List (List UInt8)} {b : Bool} (hc : cutAt 10 s = some p) (h : Lines p.2 t b) : Lines s (p.1 :: t) b
theorem lines_nil {s : List UInt8} {b : Bool} (h : Lines s [] b) : s = [] ∧ b = true := by
  cases h; exact ⟨rfl, rfl⟩
theorem strs_snoc (a : List (List UInt8)) (x : List UInt8) : strs (a ++ [x]) = strs a ++ [.string (BA x)] := by unfold strs; rw [List.map_append]; rfl
section
variable {os : List (Nat × AObj)} {A : AW} {Q : Value → AW → Prop} {l : List Thing}
abbrev lns (sl : SL) (L : List (List UInt8)) (l : List Thing) : List Thing := .vec 9 1 false sl.1 sl.2.1 sl.2.2 (strs L) :: l
theorem lns_len {sl : SL} {L : List (List UInt8)} (hp : Hp (tabsOf os) A (lns sl L l)) : sl.2.1 = L.length ∧ sl.2.2 = L.length := by
  have h := hp.own 0 _ rfl
  have := h.1
  have := h.2.1
  rw [strs_len] at *
  omega
theorem ev_ln {ρ : Type} {Q : ρ → AW → Prop} {sl : SL} {L : List (List UInt8)} {K : Option Addr → Nat → Nat → M ρ} (x : List UInt8) (hp : Hp (tabsOf os) A (lns sl L l)) (hb : L.length < 2 ^ 40)
    (HK : ∀ A' a n, Hp (tabsOf os) A' (lns (a, n, n) (L ++ [x]) l) → Ev (K a n n) A' Q) : Ev (M.new (.cells (Row.ofList [(.string (BA x))]) 9 false (0, 0) false) fun b => M.append 9 1 16 sl.1 sl.2.1 sl.2.2 (.slice (some (Addr.mk b 0 none)) 1 1) K) A Q := by
  obtain ⟨hsl, _⟩ := lns_len hp
  refine ev_new hp fun b A5 hp => ?_
  refine ev_append_row 1 0 hp rfl rfl rfl (Nat.le_refl _) (by decide) (by rw [hsl]; omega) rfl fun A6 a' hp => ?_
  exact HK A6 a' _ (by unfold lns; rw [strs_snoc]; exact hp.tail)
theorem ev_lnth {ρ : Type} {Q : ρ → AW → Prop} (j : Nat) {e : Nat} {ish : Bool} {a : Option Addr} {n c : Nat} {L : List (List UInt8)} {l : List Thing} {i : Nat} {K : ByteArray → M ρ} (hp : Hp (tabsOf os) A l) (hj : l[j]? = some (.vec e 1 ish a n c (strs L))) (hi : i < L.length) (H : Ev (K (BA (L[i]'hi))) A Q) :
    Ev (M.deref a fun a => M.load (.cell .string) 1 (a.add (i * 1)) fun (x : ByteArray) => K x) A Q := by
  obtain ⟨h1, h2, h3⟩ := hp.own j _ hj
  rw [strs_len] at h1
  cases a with
  | none => have h3 : n = 0 := h3; omega
  | some a =>
    obtain ⟨ha, _⟩ := h3
    rw [ha] at hj ⊢
    show Ev (M.load _ _ _ _) A Q
    rw [Nat.mul_one, add0]
    refine ev_load j hp hj rfl rfl (by rw [strs_len]; exact hi) (x := BA (L[i]'hi)) ?_ H
    have : ((strs L).drop i).take 1 = [.string (BA (L[i]'hi))] := by
      apply List.ext_getElem?
      intro k
      rw [List.getElem?_take, List.getElem?_drop]
      cases k with
      | zero => simp [strs, List.getElem?_eq_getElem hi]
      | succ k => simp
    rw [this]
    rfl
theorem linesG (s : List UInt8) (hs : s.length < 2 ^ 36) (hp : Hp (tabsOf os) A l)
    (H : ∀ A' a L b, Hp (tabsOf os) A' (lns (a, L.length, L.length) L l) → L.length ≤ s.length + 1 → Lines s L b → Q (.tuple ⟨[.slice a L.length L.length, .bool b]⟩) A') : Goes (XX os) 1 23 [.string (BA s)] A Q := by
  refine t23 (d := 0) (BA s, ()) fun n hn => ?_
  simp only [f23, f23c1, f23c0, BA_size]
  refine ev_bind (ev_LL (fun μ st A' => ∃ (i fr : Nat) (a : Option Addr) (L : List (List UInt8)), μ = s.length - i ∧ i ≤ s.length ∧ fr ≤ i ∧ st = ((a, L.length, L.length), (fr : Int), (i : Int), ()) ∧ Hp (tabsOf os) A' (lns (a, L.length, L.length) L l) ∧ L.length ≤ i ∧
    (10 : UInt8) ∉ (s.take i).drop fr ∧ ∀ t b, Lines (s.drop fr) t b → Lines s (L ++ t) b) (m := s.length) ⟨0, 0, none, [], rfl, by omega, by omega, rfl, hp.vec0 _ 1 false, by simp, by simp, fun t b h => h⟩ (by omega) ?_)
  rintro μ st A1 ⟨i, fr, a, L, rfl, hi, hfr, rfl, hp, hLi, hno, hL⟩
  simp only [ltB_nat]
  have hsp : s.drop fr = (s.take i).drop fr ++ s.drop i := by
    have := congrArg (List.drop fr) (List.take_append_drop i s)
    rw [List.drop_append_of_le_length (by rw [List.length_take]; omega)] at this
    exact this.symm
  refine ev_ite (fun h => ?_) fun h => ?_
  · have h := of_decide_eq_true h
    have hgo : ∀ A2 (fr' : Nat) (a' : Option Addr) (n' : Nat) (L' : List (List UInt8)), n' = L'.length → fr' ≤ i + 1 → Hp (tabsOf os) A2 (lns (a', L'.length, L'.length) L' l) → L'.length ≤ i + 1 → (10 : UInt8) ∉ (s.take (i + 1)).drop fr' → (∀ t b, Lines (s.drop fr') t b → Lines s (L' ++ t) b) →
        ∃ (i1 fr : Nat) (a : Option Addr) (L : List (List UInt8)), s.length - (i + 1) = s.length - i1 ∧ i1 ≤ s.length ∧ fr ≤ i1 ∧ (((a', n', n'), (fr' : Int), (addW .i64 (i : Int) 1), ()) : SL × Int × Int × Unit) = ((a, L.length, L.length), (fr : Int), (i1 : Int), ()) ∧ Hp (tabsOf os) A2 (lns (a, L.length, L.length) L l) ∧ L.length ≤ i1 ∧
          (10 : UInt8) ∉ (s.take i1).drop fr ∧ ∀ t b, Lines (s.drop fr) t b → Lines s (L ++ t) b := fun A2 fr' a' n' L' e h1 h2 h3 h4 h5 => by
      subst e
      exact ⟨i + 1, fr', a', L', rfl, by omega, h1, by rw [addW_1 (by omega)], h2, h3, h4, h5⟩
    have hdr : s.drop i = s[i] :: s.drop (i + 1) := List.drop_eq_getElem_cons h
    refine ev_join (fun j A' => ∃ (fr' : Nat) (a' : Option Addr) (n' : Nat) (L' : List (List UInt8)), j = ((a', n', n'), (fr' : Int), ()) ∧ n' = L'.length ∧ fr' ≤ i + 1 ∧ Hp (tabsOf os) A' (lns (a', L'.length, L'.length) L' l) ∧ L'.length ≤ i + 1 ∧ (10 : UInt8) ∉ (s.take (i + 1)).drop fr' ∧ (∀ t b, Lines (s.drop fr') t b → Lines s (L' ++ t) b)) ?_ fun go hgo2 => ?_
    · rintro _ A2 ⟨fr', a', n', L', rfl, h0, h1, h2, h3, h4, h5⟩
      exact ev_pure ⟨s.length - (i + 1), by omega, hgo A2 fr' a' n' L' h0 h1 h2 h3 h4 h5⟩
    refine ev_guard (by rw [inB_nat]; exact decide_eq_true h) ?_
    have e1 : byteAt (BA s) (i : Int) = ((s[i]).toNat : Int) := by
      rw [at_byteAt]
      unfold at'
      rw [List.getElem?_eq_getElem h]; rfl
    rw [e1, eqB_byteL _ 10 10 rfl]
    refine ev_ite (fun h1 => ?_) fun h1 => ?_
    · have h1 := of_decide_eq_true h1
      rw [h1] at hdr
      refine ev_guard (by rw [upB_nat]; exact decide_eq_true hi) (ev_guard (by rw [Int.toNat_natCast, upB_nat]; exact decide_eq_true hfr) ?_)
      rw [Int.toNat_natCast, Int.toNat_natCast, BA_extract]
      refine ev_ln (sl := (a, L.length, L.length)) ((s.take i).drop fr) hp (by omega) fun A4 a n hp => ?_
      obtain ⟨hn1, _⟩ := lns_len hp
      simp only at hn1
      subst hn1
      rw [addW_1 (by omega)]
      refine hgo2 _ A4 ⟨i + 1, a, _, _, rfl, rfl, by omega, hp, by rw [List.length_append]; simp only [List.length_cons, List.length_nil]; omega, ?_, fun t b ht => ?_⟩
      · rw [List.drop_of_length_le (by rw [List.length_take]; omega)]; simp
      · rw [List.append_assoc]
        refine hL _ b (.some (p := ((s.take i).drop fr, s.drop (i + 1))) ?_ ht)
        rw [hsp, hdr]
        exact cutAt_app _ hno
    · have h1 := of_decide_eq_false h1
      refine hgo2 _ A1 ⟨fr, a, _, L, rfl, rfl, by omega, hp, by omega, ?_, hL⟩
      have htk : s.take (i + 1) = s.take i ++ [s[i]] := by rw [List.take_add_one, List.getElem?_eq_getElem h]; rfl
      rw [htk, List.drop_append_of_le_length (by rw [List.length_take]; omega)]
      intro hm
      rcases List.mem_append.1 hm with hm | hm
      · exact hno hm
      · exact h1 (List.mem_singleton.1 hm).symm
  · have h := of_decide_eq_false h
    obtain rfl : i = s.length := by omega
    rw [List.take_length] at hno
    refine ev_pure ?_
    simp only [Round, M.sum, ltB_nat]
    refine ev_ite (fun h2 => ?_) fun h2 => ?_
    · have h2 := of_decide_eq_true h2
      refine ev_guard (by rw [upB_nat]; exact decide_eq_true (by omega)) ?_
      rw [Int.toNat_natCast, BA_till]
      refine ev_ln (sl := (a, L.length, L.length)) (s.drop fr) hp (by omega) fun A4 a n hp => ?_
      obtain ⟨hn1, _⟩ := lns_len hp
      simp only at hn1
      subst hn1
      refine ev_pure (H A4 a _ false hp (by rw [List.length_append]; simp only [List.length_cons, List.length_nil]; omega) (hL _ _ (.none ?_ (cutAt_of_not hno))))
      intro e
      have := congrArg List.length e
      rw [List.length_drop] at this
      simp only [List.length_nil] at this
      omega
    · have h2 := of_decide_eq_false h2
      have := hL [] true (by rw [List.drop_of_length_le (by omega)]; exact .nil)
      rw [List.append_nil] at this
      exact ev_pure (H A1 a L true hp (by omega) this)
set_option maxRecDepth 20000 in
theorem refParseG (s : List UInt8) (hs : s.length < 2 ^ 36) (hp : Hp (tabsOf os) A l) (H : ∀ A' E r, Hp (tabsOf os) A' (E ++ l) → ResE (tabsOf os) s E r → Q (prV r) A') : Goes (XX os) 7 9 [.string (BA s)] A Q := by
  refine t9 (d := 6) (BA s, ()) fun n hn => ?_
  unfold f9
  simp only [BA_size]
  rw [ltB_lit']
  refine ev_ite (fun h => ?_) fun h => ?_
  · exact ev_pure (H A [] ((none, 0, 0), 0, 3, ()) hp (.long (of_decide_eq_true h)))
  have hlen : s.length ≤ 65536 := by have := of_decide_eq_false h; omega
  clear h
  refine ((linesG s hs hp fun A1 a0 L b hp hL0 hL => ⟨((a0, L.length, L.length), b, ()), rfl, ?_⟩).mono (show 1 ≤ 6 by decide)).use hn
  unfold f9c3
  refine ev_bind (ev_LL (fun μ st A' => ∃ (rest : List UInt8) (xs : List Evt) (a : Option Addr) (C : List Value) (D : List Thing) (t : List (List UInt8)), μ = rest.length ∧ st = ((a, xs.length, xs.length), ((xs.length : Nat) : Int), ()) ∧ Hp (tabsOf os) A' (.vec 55 6 false a xs.length xs.length C :: (D ++ lns (a0, L.length, L.length) L l)) ∧ AllAt (EvtAt (tabsOf os) D) 6 C xs ∧
    parseV eventV s = behind xs (parseV eventV rest) ∧ xs.length + rest.length ≤ s.length ∧ Lines rest t b ∧ L.drop xs.length = t) (m := s.length) ⟨s, [], none, [], [], L, rfl, rfl, hp.vec0 _ _ _, .nil, (behind_nil _).symm, by simp, hL, rfl⟩ (by omega) ?_)
  rintro μ st A2 ⟨rest, xs, a, C, D, t, rfl, rfl, hp, hall, hpar, hle, hlin, ht⟩
  simp only [ltB_nat]
  refine ev_ite (fun h => ?_) fun h => ?_
  rotate_left
  · -- all is read
    have h := of_decide_eq_false h
    rw [List.drop_of_length_le (by omega)] at ht
    subst ht
    have hr0 : rest = [] := by cases hlin; rfl
    subst hr0
    rw [parse_nil] at hpar
    have hpar : parseV eventV s = .ok xs := by rw [hpar]; simp [behind]
    refine ev_pure (ev_pure (H A2 (.vec 55 6 false a xs.length xs.length C :: (D ++ [.vec 9 1 false a0 L.length L.length (strs L)])) ((a, xs.length, xs.length), 0, 0, ()) ?_ (.ok hlen xs a C hpar (.vec (.head _) hall.1) (hall.mono fun c x k => k.mono fun t ht => .tail _ (List.mem_append_left _ ht)))))
    rw [List.cons_append, List.append_assoc]
    exact hp
  have h := of_decide_eq_true h
  unfold f9c2
  refine ev_guard ((inB_nat _ _).trans (decide_eq_true h)) ?_
  rw [Int.toNat_natCast]
  have hj : (.vec 55 6 false a xs.length xs.length C :: (D ++ lns (a0, L.length, L.length) L l) : List Thing)[D.length + 1]? = some (.vec 9 1 false a0 L.length L.length (strs L)) := by simp
  refine ev_lnth (D.length + 1) hp hj h ?_
  obtain ⟨one, hone⟩ : ∃ one, one = L[xs.length] := ⟨_, rfl⟩
  rw [← hone]
  have ht2 : one :: L.drop (xs.length + 1) = t := by rw [hone, ← List.drop_eq_getElem_cons h]; exact ht
  have hol : one.length ≤ rest.length := by
    cases hlin with
    | nil => cases ht2
    | none h1 hc => rw [(List.cons.inj ht2).1]; exact Nat.le_refl _
    | some hc h1 => rw [(List.cons.inj ht2).1]; have := cutAt_len hc; omega
  refine (refEventG one (by omega) hp fun A4 D' d hp hsee => ⟨(((refE one).1.kind, BA (refE one).1.p, BA (refE one).1.q, (refE one).1.a, (refE one).1.b, d, ()), refB one, ()), rfl, ?_⟩).use hn
  have hp := hp.perm (l' := .vec 55 6 false a xs.length xs.length C :: ((D' ++ D) ++ lns (a0, L.length, L.length) L l)) (by rw [List.append_assoc]; exact List.perm_middle)
  refine ev_new hp fun b7 A5 hp => ?_
  unfold f9c1
  refine ev_store 0 hp rfl rfl (Nat.le_of_ble_eq_true rfl) rfl fun A6 hp => ?_
  have href := ref_event one
  obtain ⟨x, hx⟩ : ∃ x, x = (refE one).1 := ⟨_, rfl⟩
  rw [← hx] at hp hsee href
  obtain ⟨t7, hp⟩ : ∃ t7, Hp (tabsOf os) A6 (.cells b7 (evtC x d) t7 false (0, 0) false :: .vec 55 6 false a xs.length xs.length C :: ((D' ++ D) ++ lns (a0, L.length, L.length) L l)) := ⟨_, hp⟩
  refine ev_join (fun j A' => Hp (tabsOf os) A' (.cells b7 (evtC x d) t7 false (0, 0) false :: .vec 55 6 false a xs.length xs.length C :: ((D' ++ D) ++ lns (a0, L.length, L.length) L l)) ∧ j = (!refB one || (!b && decide (xs.length = L.length - 1)), ())) ?_ fun go hgo => ?_
  rotate_left
  · refine ev_ite (fun h1 => hgo _ A6 ⟨hp, ?_⟩) fun h1 => ?_
    · have h1 : (!refB one) = true := h1
      rw [h1]; rfl
    · have h1 : (!refB one) = false := h1
      rw [h1] at hgo
      refine ev_ite (fun h2 => hgo _ A6 ⟨hp, ?_⟩) fun h2 => hgo _ A6 ⟨hp, ?_⟩
      · have h2 : (!b) = true := h2
        simp only
        rw [h2, subW_1 (by omega) (by omega), eqB_nat]; rfl
      · have h2 : (!b) = false := h2
        rw [h2]; rfl
  rintro _ A7 ⟨hp, rfl⟩
  have hone0 : ∀ {p : List UInt8 × List UInt8} {t2 : List (List UInt8)}, one :: L.drop (xs.length + 1) = p.1 :: t2 → one = p.1 ∧ L.drop (xs.length + 1) = t2 := fun e => List.cons.inj e
  refine ev_ite (fun h1 => ?_) fun h1 => ?_
  · have h1 : (!refB one || (!b && decide (xs.length = L.length - 1))) = true := h1
    have hbad : parseV eventV rest = .error 1 := by
      cases hlin with
      | nil => cases ht2
      | none h2 hc => exact parse_none _ h2 hc
      | @some _ p t2 _ hc h2 =>
        obtain ⟨rfl, e2⟩ := hone0 ht2
        refine parse_bad _ hc ?_
        rcases Bool.or_eq_true_iff.1 h1 with h3 | h3
        · rw [← href, if_neg (by simpa using h3)]
        · rw [Bool.and_eq_true] at h3
          have h4 := of_decide_eq_true h3.2
          rw [List.drop_of_length_le (by omega)] at e2
          subst e2
          have : b = true := (lines_nil h2).2
          rw [this] at h3
          exact absurd h3.1 (by decide)
    rw [hbad] at hpar
    rw [addW_1 (by omega)]
    exact ev_pure (ev_pure (H A7 [] ((none, 0, 0), ((xs.length + 1 : Nat) : Int), 5, ()) (hp.sub (.cons _ (.cons _ (.trans (List.sublist_cons_self _ _) (List.sublist_append_right _ _))))) (.bad hlen (xs.length + 1) hpar)))
  · have h1 : (!refB one || (!b && decide (xs.length = L.length - 1))) = false := h1
    obtain ⟨h3, h4⟩ := Bool.or_eq_false_iff.1 h1
    have h3 : refB one = true := by simpa using h3
    cases hlin with
    | nil => cases ht2
    | none h2 hc =>
      have e2 := congrArg List.length ht2
      simp only [List.length_cons, List.length_nil, List.length_drop] at e2
      rw [decide_eq_true (by omega)] at h4
      cases h4
    | @some _ p t2 _ hc h2 =>
      obtain ⟨e1, e2⟩ := hone0 ht2
      have hf : eventV p.1 = some x := by rw [← e1, ← href, if_pos h3]
      have hcl := cutAt_len hc
      unfold f9c0
      refine ev_load 0 hp rfl rfl rfl (Nat.le_of_ble_eq_true rfl) (x := (x.kind, BA x.p, BA x.q, x.a, x.b, d, ())) rfl ?_
      refine ev_new hp fun b11 A8 hp => ?_
      refine ev_append_row 2 0 hp rfl rfl (m := 1) rfl (by decide) (by decide) (by show (2 * (xs.length + 1) + 200) * 80 ≤ _; omega) rfl fun A9 a9 hp => ?_
      refine ev_pure ⟨p.2.length, by omega, p.2, xs ++ [x], a9, C ++ evtC x d, D' ++ D, t2, rfl, ?_, ?_, ?_, ?_, ?_, h2, ?_⟩
      · rw [List.length_append, addW_1 (by omega)]; rfl
      · rw [List.length_append]; exact hp.tail.tail
      · exact AllAt.snoc (hall.mono fun c y h => h.mono fun t ht => List.mem_append_right _ ht) rfl ⟨d, rfl, hsee.mono fun t ht => List.mem_append_left _ ht⟩
      · rw [hpar, parse_some _ hc hf, behind_snoc]
      · rw [List.length_append]; simp only [List.length_cons, List.length_nil]; omega
      · rw [List.length_append]; exact e2
end
end Go.Proofs.YtlcigkdflbfdgaaGreatDoor.sf
namespace Go.Proofs.YtlcigkdflbfdgaaGreatDoor.sf
set_option linter.unusedVariables false
open Go Go.Eng Go.Sh
theorem res_both {T : Tabs} {s : List UInt8} {E E2 : List Thing} {r r2 : PR} (q : ResE T s E r) (q2 : ResE T s E2 r2) : ∃ (zs : List Evt) (a : Option Addr) (L : List Value) (a2 : Option Addr) (L2 : List Value) (n e : Int), r = ((a, zs.length, zs.length), n, e, ()) ∧ r2 = ((a2, zs.length, zs.length), n, e, ()) ∧
    RowsAt T E a zs.length 6 L ∧ AllAt (EvtAt T E) 6 L zs ∧ RowsAt T E2 a2 zs.length 6 L2 ∧ AllAt (EvtAt T E2) 6 L2 zs ∧ zs.length ≤ 65536 := by
  cases q with
  | long h =>
    cases q2 with
    | long _ => exact ⟨[], none, [], none, [], 0, 3, rfl, rfl, .nil, .nil, .nil, .nil, by simp⟩
    | ok h2 => omega
    | bad h2 => omega
  | ok h xs a L he g1 g2 =>
    cases q2 with
    | long h2 => omega
    | ok h2 xs2 a2 L2 he2 k1 k2 =>
      rw [he] at he2
      obtain rfl := Except.ok.inj he2
      have hz := (parse_all _ xs s he).1
      exact ⟨xs, a, L, a2, L2, 0, 0, rfl, rfl, g1, g2, k1, k2, by omega⟩
    | bad h2 k he2 => rw [he] at he2; cases he2
  | bad h k he =>
    cases q2 with
    | long h2 => omega
    | ok h2 xs2 a2 L2 he2 => rw [he] at he2; cases he2
    | bad h2 k2 he2 =>
      rw [he] at he2
      obtain rfl := Except.error.inj he2
      exact ⟨[], none, [], none, [], k, 5, rfl, rfl, .nil, .nil, .nil, .nil, by simp⟩
section
variable {os : List (Nat × AObj)} {A : AW} {Q : Value → AW → Prop} {l : List Thing}
theorem shEventsG {a1 : Option Addr} {c1 : Nat} {L1 : List Value} {xs : List Evt} (s : List UInt8) (h1 : RowsAt (tabsOf os) [] a1 xs.length 6 L1) (k1 : AllAt (EvtAt (tabsOf os) []) 6 L1 xs) (f1 : FewE xs)
    (hs : s.length < 2 ^ 35) (hr : Runes os) : Gives (tabsOf os) (XX os) 13 3 [.slice a1 xs.length c1, .string (BA s)] (.bool true) := by
  intro A l Q hp H
  have no : ∀ {l : List Thing}, ∀ t ∈ ([] : List Thing), t ∈ l := fun t ht => by cases ht
  refine t3 (d := 12) ((a1, xs.length, c1), BA s, ()) fun n hn => ?_
  unfold f3
  have cx := f1.count
  refine ((textG h1 k1 no f1.small (by omega) f1.text hr hp fun A1 hp => ⟨(BA (textR lineO xs).1, (textR lineO xs).2, ()), rfl, ?_⟩).mono (show 9 ≤ 12 by decide)).use hn
  refine ((theirsG h1 k1 no (by omega) hp fun A2 b2 hp => ⟨(b2, xs.length, xs.length), rfl, ?_⟩).mono (show 1 ≤ 12 by decide)).use hn
  unfold f3c1
  refine ((refTextG (c := xs.length) (D := _) (.vec (.head _) k1.1) (k1.mono fun c x k => k.mono no) (fun t ht => ht) f1.small (by omega) f1.text hp fun A3 hp => ⟨(BA (textR lineO xs).1, (textR lineO xs).2, ()), rfl, ?_⟩).mono (show 4 ≤ 12 by decide)).use hn
  refine (parseE s (by omega) hr hp fun A4 E r hp q => ⟨r, prV_prj r, ?_⟩).use hn
  refine ((refParseG s (by omega) hp fun A5 E2 r2 hp q2 => ⟨r2, prV_prj r2, ?_⟩).mono (show 7 ≤ 12 by decide)).use hn
  obtain ⟨zs, a, L, a2, L2, m, e, rfl, rfl, g1, g2, p1, p2, hz⟩ := res_both q q2
  refine ev_join (fun j A' => Hp (tabsOf os) A' l ∧ j = (true, ())) ?_ fun go hgo => ?_
  · rintro _ A6 ⟨hp, rfl⟩
    exact ev_pure (H A6 hp)
  refine ev_t (seq_self _) ?_
  unfold f3c0
  refine ev_t (eqB_self _) ?_
  refine ((theirsG g1 g2 (fun t ht => List.mem_append_right _ (List.mem_append_left _ ht)) (by omega) hp fun A6 b3 hp => ⟨(b3, zs.length, zs.length), rfl, ?_⟩).mono (show 1 ≤ 12 by decide)).use hn
  refine ((eventsG (c1 := zs.length) (c2 := zs.length) (D := _) (.vec (.head _) g2.1) (g2.mono fun c x k => k.mono fun t ht => .tail _ (List.mem_append_right _ (List.mem_append_left _ ht))) (p1.mono fun t ht => .tail _ (List.mem_append_left _ ht)) (p2.mono fun c x k => k.mono fun t ht => .tail _ (List.mem_append_left _ ht)) (fun t ht => ht) (by omega) hp
    fun A7 hp => ⟨true, rfl, ?_⟩).mono (show 1 ≤ 12 by decide)).use hn
  refine ev_t rfl (ev_t (eqB_self _) (ev_t (eqB_self _) ?_))
  have hp := hp.sub (l' := l) (.cons _ (.trans (.trans (List.sublist_cons_self _ _) (List.sublist_append_right _ _)) (List.sublist_append_right _ _)))
  exact ((wakesG hp ⟨true, rfl, hgo _ A7 ⟨hp, rfl⟩⟩).mono (show 1 ≤ 12 by decide)).use hn
end
end Go.Proofs.YtlcigkdflbfdgaaGreatDoor.sf
