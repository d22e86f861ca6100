/-
  Walks: the document's Unquote.
-/
import Derived.Test.YtlcigkdflbfdgaaDoorShW6
namespace Go.Proofs.YtlcigkdflbfdgaaDoor.sh
open Go Go.Eng Go.Sh
section
variable {os : List (Nat × AObj)} {A : AW} {Q : Value → AW → Prop} {l : List Thing}
theorem byte_drop {s t : List UInt8} {c : UInt8} {i : Nat} (h : s.drop i = c :: t) : byteAt (BA s) (i : Int) = (c.toNat : Int) := by
  rw [at_byteAt]
  have : at' s i = at' (s.drop i) 0 := by unfold at'; rw [List.getElem?_drop, Nat.add_zero]
  rw [this, h]; rfl
theorem drop_next {s t : List UInt8} {c : UInt8} {i : Nat} (h : s.drop i = c :: t) : s.drop (i + 1) = t := by
  rw [← List.drop_drop, h]; rfl
theorem drop_len {s t : List UInt8} {c : UInt8} {i : Nat} (h : s.drop i = c :: t) : i < s.length ∧ s.length - i = t.length + 1 := by
  have := congrArg List.length h
  rw [List.length_drop, List.length_cons] at this
  omega
/-- A hex digit, as the document reads it. -/
theorem hexv_of (c : UInt8) : hexv c = if 48 ≤ c.toNat ∧ c.toNat ≤ 57 then some (c.toNat - 48) else if 97 ≤ c.toNat ∧ c.toNat ≤ 102 then some (c.toNat - 87) else none := rfl
theorem eqB_byte (c d : UInt8) (n : Nat) (h : n = d.toNat) : eqB (c.toNat : Int) (n : Int) = decide (c = d) := by
  subst h
  rw [eqB_nat]
  exact decide_eq_decide.2 UInt8.toNat_inj
theorem subW_u8 {a b : Nat} (h : b ≤ a) (h2 : a < 256) : subW .u8 (a : Int) (b : Int) = ((a - b : Nat) : Int) := by
  rw [subW_eq, show (a : Int) - b = ((a - b : Nat) : Int) by omega]
  exact wrap_nat (topU8 (by omega))
theorem digitG {X : XT} {L : LoopI} {x k : Nat} (c : UInt8) {Q' : ((Int) × (Int) × Unit) ⊕ (((Int) × Unit) ⊕ (((ByteArray) × (ByteArray) × (Bool) × Unit) ⊕ (Unit))) → AW → Prop} (hx : x < 1000) (hk : k < 1000)
    (H1 : ∀ v, hexv c = some v → Q' (.inl (((16 * x + v : Nat) : Int), ((k + 1 : Nat) : Int), ())) A) (H2 : hexv c = none → Q' (.inr (.inr (.inl (st0, st0, false, ())))) A) : Ev (f8c0 X L ((x : Int), (k : Int), ()) (c.toNat : Int)) A Q' := by
  have hc := c.toNat_lt
  unfold f8c0
  simp only [M.join]
  rw [addW_1 (by omega)]
  by_cases h1 : 48 ≤ c.toNat
  · refine ev_t (by rw [leB_lit']; exact decide_eq_true h1) ?_
    by_cases h2 : c.toNat ≤ 57
    · refine ev_t (by rw [leB_lit]; exact decide_eq_true h2) (ev_pure ?_)
      have := H1 (c.toNat - 48) (by rw [hexv_of, if_pos ⟨h1, h2⟩])
      rw [show (48 : Int) = ((48 : Nat) : Int) from rfl, subW_u8 h1 hc, wrap_i64n (by omega), mulW_lit (by show 16 * x < _; omega), addW_i64 (by show 16 * x + _ < _; omega)]
      exact this
    · refine ev_f (by rw [leB_lit]; exact decide_eq_false h2) ?_
      by_cases h3 : 97 ≤ c.toNat
      · refine ev_t (by rw [leB_lit']; exact decide_eq_true h3) ?_
        by_cases h4 : c.toNat ≤ 102
        · refine ev_t (by rw [leB_lit]; exact decide_eq_true h4) (ev_pure ?_)
          have := H1 (c.toNat - 87) (by rw [hexv_of, if_neg (by omega), if_pos ⟨h3, h4⟩])
          rw [show (97 : Int) = ((97 : Nat) : Int) from rfl, subW_u8 h3 hc, wrap_i64n (by omega), mulW_lit (by show 16 * x < _; omega), addW_i64 (by show 16 * x + _ < _; omega), addW_lit (by show 16 * x + _ + 10 < _; omega)]
          rw [show 16 * x + (c.toNat - 87) = 16 * x + (c.toNat - 97) + 10 by omega] at this
          exact this
        · exact ev_f (by rw [leB_lit]; exact decide_eq_false h4) (ev_pure (H2 (by rw [hexv_of, if_neg (by omega), if_neg (by omega)])))
      · exact ev_f (by rw [leB_lit']; exact decide_eq_false h3) (ev_f rfl (ev_pure (H2 (by rw [hexv_of, if_neg (by omega), if_neg (by omega)]))))
  · exact ev_f (by rw [leB_lit']; exact decide_eq_false h1) (ev_f rfl (ev_f (by rw [leB_lit']; exact decide_eq_false (by omega)) (ev_f rfl (ev_pure (H2 (by rw [hexv_of, if_neg (by omega), if_neg (by omega)]))))))
theorem map_step {β : Type} (x : UInt8) (bs : List UInt8) (o : Option (List UInt8 × β)) : (o.map fun p => (x :: p.1, p.2)).map (fun p => (bs ++ p.1, p.2)) = o.map fun p => ((bs ++ [x]) ++ p.1, p.2) := by
  cases o <;> simp
theorem refUnquoteG (s : List UInt8) (hs : s.length < 2 ^ 36) : Gives (tabsOf os) (XX os) 3 8 [.string (BA s)] (unqV (unqR s)) := by
  intro A l Q hp H
  refine t8 (d := 2) (BA s, ()) fun n hn => ?_
  unfold f8
  simp only [M.join, BA_size, inB_0, at_byteAt0]
  rw [eqB_lit]
  by_cases hn0 : s.length = 0
  · obtain rfl := List.eq_nil_of_length_eq_zero hn0
    exact ev_t (by rfl) (ev_t rfl (ev_pure (H A hp)))
  refine ev_f (decide_eq_false hn0) (ev_guard (decide_eq_true (by omega)) ?_)
  obtain ⟨c0, t0, rfl⟩ : ∃ c t, s = c :: t := by
    cases s with
    | nil => exact absurd rfl hn0
    | cons c t => exact ⟨c, t, rfl⟩
  have e0 : ((at' (c0 :: t0) 0 : Nat) : Int) = (c0.toNat : Int) := rfl
  rw [e0, show (34 : Int) = ((34 : Nat) : Int) from rfl, eqB_byte c0 34 34 rfl]
  by_cases h34 : c0 = 34
  rotate_left
  · have : unqR (c0 :: t0) = none := by unfold unqR; simp only [if_neg h34]
    rw [this] at H
    exact ev_t (by rw [decide_eq_false h34]; rfl) (ev_pure (H A hp))
  refine ev_f (by rw [decide_eq_true h34]; rfl) ?_
  have hu : unqR (c0 :: t0) = match readW ((c0 :: t0).drop 1) with
    | some (b, rest) => if word b = (c0 :: t0).take ((c0 :: t0).length - rest.length) then some (b, rest) else none
    | none => none := by
    show (if c0 = 34 then _ else none) = _
    rw [if_pos h34]
    rfl
  rw [hu] at H
  clear hu e0 h34
  generalize c0 :: t0 = s at *
  have no : ∀ A', Hp (tabsOf os) A' l → readW (s.drop 1) = none → Q (unqV none) A' := fun A' h' e => by
    have := H A' h'
    rw [e] at this
    exact this
  unfold f8c5
  refine ev_bind (ev_LL (fun m st A' => ∃ pos bs, m = s.length - pos ∧ 1 ≤ pos ∧ pos ≤ s.length ∧ st.2.1 = ((pos : Nat) : Int) ∧ Hp (tabsOf os) A' (bts st.1 bs l) ∧ readW (s.drop 1) = (readW (s.drop pos)).map (fun p => (bs ++ p.1, p.2)) ∧ bs.length ≤ pos) (m := s.length - 1)
    ⟨1, [], rfl, by decide, by omega, rfl, hp.vec0 5 1 false, by cases readW (s.drop 1) <;> simp, by simp⟩ (by omega) ?_)
  rintro m ⟨sl, at0, u⟩ A4 ⟨pos, bs, rfl, hpos1, hpos, e, hp, hw, hlb⟩
  simp only at e hp
  subst e
  simp only [ltB_nat, BA_size, inB_nat]
  have leave : ∀ A4, Hp (tabsOf os) A4 (bts sl bs l) → (s.drop pos = [] ∨ ∃ t, s.drop pos = 34 :: t) → Ev (f8c4 (XX os n) LL (BA s, ()) (sl, (pos : Int), ())) A4 Q := fun A4 hp hc => by
    unfold f8c4
    simp only [M.join, BA_size, leB_nat]
    rcases hc with hc | ⟨t, hc⟩
    · have hlen := congrArg List.length hc
      rw [List.length_drop] at hlen
      have hlen : s.length - pos = 0 := hlen
      refine ev_t (decide_eq_true (by omega)) (ev_t rfl (ev_pure (no A4 hp.tail ?_)))
      rw [hw, hc, readW_nil]; rfl
    · obtain ⟨hlt, hl⟩ := drop_len hc
      rw [hc, readW_end] at hw
      simp only [Option.map_some, List.append_nil] at hw
      rw [hw] at H
      simp only at H
      refine ev_f (decide_eq_false (by omega)) ?_
      rw [addW_1 (by omega)]
      simp only [upB_nat, Int.toNat_natCast, BA_extract, List.drop_zero]
      refine ev_guard (decide_eq_true (by omega)) (ev_toStr 0 hp rfl ?_)
      refine (refQuoteG bs (by omega)).use hn hp rfl fun A5 hp => ?_
      rw [show s.length - t.length = pos + 1 by omega] at H
      rw [BA_seq]
      by_cases hwd : word bs = s.take (pos + 1)
      · rw [if_pos hwd] at H
        refine ev_f (by rw [decide_eq_true hwd]; rfl) (ev_guard (decide_eq_true (by omega)) (ev_toStr 0 hp rfl (ev_pure (by rw [List.take_length, drop_next hc]; exact H A5 hp.tail))))
      · rw [if_neg hwd] at H
        exact ev_t (by rw [decide_eq_false hwd]; rfl) (ev_pure (H A5 hp.tail))
  refine ev_join (fun j A' => Hp (tabsOf os) A' (bts sl bs l) ∧ ((j.1 = false ∧ (s.drop pos = [] ∨ ∃ t, s.drop pos = 34 :: t)) ∨ (j.1 = true ∧ ∃ c t, s.drop pos = c :: t ∧ c ≠ 34))) ?_ fun go hgo => ?_
  rotate_left
  · by_cases hlt : pos < s.length
    · obtain ⟨c, t, hc⟩ := drop_cons hlt
      refine ev_t (decide_eq_true hlt) (ev_guard (decide_eq_true hlt) ?_)
      rw [byte_drop hc, show (34 : Int) = ((34 : Nat) : Int) from rfl, eqB_byte c 34 34 rfl]
      by_cases h34 : c = 34
      · exact hgo _ A4 ⟨hp, .inl ⟨by rw [decide_eq_true h34]; rfl, .inr ⟨t, by rw [hc, h34]⟩⟩⟩
      · exact hgo _ A4 ⟨hp, .inr ⟨by rw [decide_eq_false h34]; rfl, c, t, hc, h34⟩⟩
    · exact ev_f (decide_eq_false hlt) (hgo _ A4 ⟨hp, .inl ⟨rfl, .inl (List.drop_of_length_le (by omega))⟩⟩)
  rintro ⟨j, _⟩ A5 ⟨hp5, ⟨rfl, hc⟩ | ⟨rfl, c, t, hc, h34⟩⟩
  · refine ev_f rfl (ev_pure ?_)
    simp only [Round, M.sum]
    exact leave A5 hp5 hc
  · refine ev_t rfl ?_
    obtain ⟨hlt, htl⟩ := drop_len hc
    have nx := drop_next hc
    have out : readW (s.drop 1) = none → ∀ A6, Hp (tabsOf os) A6 (bts sl bs l) → Q (unqV none) A6 := fun e A6 h6 => no A6 h6.tail e
    refine ev_join (fun j A' => ∃ pos' bs', pos < pos' ∧ pos' ≤ s.length ∧ j.2.1 = ((pos' : Nat) : Int) ∧ Hp (tabsOf os) A' (bts j.1 bs' l) ∧ readW (s.drop 1) = (readW (s.drop pos')).map (fun p => (bs' ++ p.1, p.2)) ∧ bs'.length ≤ pos') ?_ fun go6 hgo6 => ?_
    · rintro ⟨sl', k, _⟩ A6 ⟨pos', bs', g1, g2, rfl, g4, g5, g6⟩
      exact ev_pure ⟨_, by omega, pos', bs', rfl, by omega, g2, rfl, g4, g5, g6⟩
    unfold f8c3
    simp only [BA_size, inB_nat]
    refine ev_guard (decide_eq_true hlt) ?_
    rw [byte_drop hc, show (92 : Int) = ((92 : Nat) : Int) from rfl, eqB_byte c 92 92 rfl]
    by_cases h92 : c = 92
    rotate_left
    · refine ev_t (by rw [decide_eq_false h92]; rfl) (ev_guard (decide_eq_true hlt) ?_)
      refine ev_bytes [c] hp5 rfl rfl (by simp only [List.length_cons, List.length_nil]; omega) fun A6 a6 n6 h6 => ?_
      rw [addW_1 (by omega)]
      refine hgo6 _ A6 ⟨pos + 1, bs ++ [c], by omega, by omega, rfl, h6, ?_, by simp only [List.length_append, List.length_cons, List.length_nil]; omega⟩
      rw [hw, hc, readW_one t h34 h92, map_step, nx]
    subst h92
    refine ev_f rfl ?_
    rw [addW_1 (by omega), leB_nat]
    by_cases ht : t = []
    · subst ht
      refine ev_t (decide_eq_true (by simp at htl; omega)) (ev_pure (ev_pure (out ?_ A5 hp5)))
      rw [hw, hc, readW_stop]; rfl
    obtain ⟨x, t1, rfl⟩ : ∃ x t1, t = x :: t1 := by
      cases t with
      | nil => exact absurd rfl ht
      | cons x t1 => exact ⟨x, t1, rfl⟩
    obtain ⟨hlt2, htl2⟩ := drop_len nx
    refine ev_f (decide_eq_false (by omega)) ?_
    unfold f8c2
    simp only [BA_size, inB_nat]
    refine ev_guard (decide_eq_true hlt2) ?_
    rw [byte_drop nx, show (120 : Int) = ((120 : Nat) : Int) from rfl, eqB_byte x 120 120 rfl]
    by_cases h120 : x = 120
    rotate_left
    · refine ev_t (by rw [decide_eq_false h120]; rfl) ?_
      rw [addW_1 (by omega)]
      simp only [inB_nat]
      refine ev_guard (decide_eq_true hlt2) ?_
      rw [byte_drop nx]
      refine ev_bytes [x] hp5 rfl rfl (by simp only [List.length_cons, List.length_nil]; omega) fun A6 a6 n6 h6 => ?_
      rw [addW_lit (by show pos + 2 < _; omega)]
      refine hgo6 _ A6 ⟨pos + 2, bs ++ [x], by omega, by omega, rfl, h6, ?_, by simp only [List.length_append, List.length_cons, List.length_nil]; omega⟩
      rw [hw, hc, readW_esc t1 h120, map_step, show pos + 2 = pos + 1 + 1 from rfl, drop_next nx]
    subst h120
    refine ev_f rfl ?_
    rw [addW_lit (by show pos + 3 < _; omega), leB_nat]
    by_cases h3 : s.length ≤ pos + 3
    · refine ev_t (decide_eq_true h3) (ev_pure (ev_pure (out ?_ A5 hp5)))
      rw [hw, hc, readW_few (by omega)]; rfl
    refine ev_f (decide_eq_false h3) ?_
    have nx2 := drop_next nx
    obtain ⟨a, b, t2, rfl⟩ : ∃ a b t2, t1 = a :: b :: t2 := by
      match t1, (show 2 ≤ t1.length by omega) with
      | [], h => simp at h
      | [a], h => simp at h
      | a :: b :: t2, _ => exact ⟨a, b, t2, rfl⟩
    have nx3 := drop_next nx2
    unfold f8c1
    obtain ⟨hlt3, _⟩ := drop_len nx2
    obtain ⟨hlt4, _⟩ := drop_len nx3
    refine ev_bind (ev_LL (fun m st A' => A' = A5 ∧ ((m = 2 ∧ st = (0, 2, ())) ∨ (m = 1 ∧ ∃ u, hexv a = some u ∧ st = (((u : Nat) : Int), 3, ())) ∨ (m = 0 ∧ ∃ u v, hexv a = some u ∧ hexv b = some v ∧ st = (((16 * u + v : Nat) : Int), 4, ())))) (m := 2) ⟨rfl, .inl ⟨rfl, rfl⟩⟩ (by omega) ?_)
    have bad : hexv a = none ∨ hexv b = none → readW (s.drop 1) = none := fun h => by rw [hw, hc, readW_nohex t2 h]; rfl
    rintro m st A6 ⟨rfl, ⟨rfl, rfl⟩ | ⟨rfl, u, hu, rfl⟩ | ⟨rfl, u, v, hu, hv, rfl⟩⟩
    · refine ev_t (by decide) ?_
      simp only
      rw [addW_lit (by show pos + 2 < _; omega)]
      refine ev_guard (by rw [inB_nat]; exact decide_eq_true hlt3) ?_
      rw [show byteAt (BA s) ((pos + 2 : Nat) : Int) = (a.toNat : Int) from byte_drop nx2]
      refine digitG (x := 0) (k := 2) a (by decide) (by decide) (fun v hv => ⟨1, by decide, rfl, .inr (.inl ⟨rfl, v, hv, by simp⟩)⟩) fun hno => ?_
      exact ev_pure (ev_pure (out (bad (.inl hno)) A6 hp5))
    · refine ev_t (show ltB 3 4 = true by decide) ?_
      simp only
      rw [addW_lit (by show pos + 3 < _; omega)]
      refine ev_guard (by rw [inB_nat]; exact decide_eq_true hlt4) ?_
      rw [show byteAt (BA s) ((pos + 3 : Nat) : Int) = (b.toNat : Int) from byte_drop nx3]
      have := hexv_lt hu
      refine digitG (x := u) (k := 3) b (by omega) (by decide) (fun v hv => ⟨0, by decide, rfl, .inr (.inr ⟨rfl, u, v, hu, hv, rfl⟩)⟩) fun hno => ?_
      exact ev_pure (ev_pure (out (bad (.inr hno)) A6 hp5))
    · have h1 := hexv_lt hu
      have h2 := hexv_lt hv
      refine ev_f (show ltB 4 4 = false by decide) (ev_pure ?_)
      simp only [Round, M.sum]
      refine ev_bytes [UInt8.ofNat (16 * u + v)] hp5 ?_ rfl (by simp only [List.length_cons, List.length_nil]; omega) fun A7 a7 n7 h7 => ?_
      · rw [wrapU8, Nat.mod_eq_of_lt (by omega), u8v (16 * u + v) (by omega)]; rfl
      rw [addW_lit (by show pos + 4 < _; omega)]
      refine hgo6 _ A7 ⟨pos + 4, bs ++ [UInt8.ofNat (16 * u + v)], by omega, by omega, rfl, h7, ?_, by simp only [List.length_append, List.length_cons, List.length_nil]; omega⟩
      rw [hw, hc, readW_hex t2 hu hv, map_step, show pos + 4 = pos + 1 + 1 + 1 + 1 from rfl, drop_next nx3]
end
end Go.Proofs.YtlcigkdflbfdgaaDoor.sh
