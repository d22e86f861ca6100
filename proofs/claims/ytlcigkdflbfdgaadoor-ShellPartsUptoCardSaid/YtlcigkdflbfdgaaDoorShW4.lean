/-
  Walks: shell.end, shell.Unquote.
-/
import Derived.Test.YtlcigkdflbfdgaaDoorShW3
namespace Go.Proofs.YtlcigkdflbfdgaaDoor.sh
open Go Go.Eng Go.Sh
section
variable {os : List (Nat × AObj)} {A : AW} {Q : Value → AW → Prop} {l : List Thing}
/-- Where a word ends. -/
def endN (s : List UInt8) : Option Nat := match s with
  | [] => none
  | c :: t => if c = 34 then scanE true (c :: t) else none
def endV : Option Nat → Value
  | some k => .int .i64 (k : Int)
  | none => .int .i64 (-1)
theorem take_one (s : List UInt8) : (s.take [(34 : UInt8)].length = [34]) ↔ ∃ t, s = 34 :: t := by
  cases s with
  | nil => simp
  | cons c t => simp
theorem endG (s : List UInt8) (hs : s.length < 2 ^ 38) : Gives (tabsOf os) (XX os) 3 20 [.string (BA s)] (endV (endN s)) := by
  intro A l Q hp H
  refine t20 (d := 2) (BA s, ()) fun n hn => ?_
  unfold f20
  rw [show st15 = BA [34] from rfl]
  refine (prefixG s [34]).use hn hp rfl fun A1 hp => ?_
  by_cases h34 : s.take [(34 : UInt8)].length = [34]
  · obtain ⟨t, rfl⟩ := (take_one s).1 h34
    rw [decide_eq_true h34]
    refine ev_f rfl (ev_iter hp fun b A2 hp => ?_)
    unfold f20c0
    have hend : endN (34 :: t) = scanE true (34 :: t) := by
      show (if (34 : UInt8) = 34 then scanE true (34 :: t) else none) = _
      rw [if_pos rfl]
    rw [hend] at H
    generalize 34 :: t = s at *
    refine ev_bind (ev_LL (fun m st A' => ∃ pos, m = s.length - pos ∧ pos ≤ s.length ∧ Hp (tabsOf os) A' (.iter b (BA s) pos :: l) ∧ scanE true s = (scanE st.1 (s.drop pos)).map (· + pos)) (m := s.length)
      ⟨0, rfl, by omega, hp, by cases h : scanE true s <;> simp [h]⟩ (by omega) ?_)
    rintro m st A3 ⟨pos, rfl, hpos, hp, hw⟩
    refine ev_next 0 hp rfl (fun hge => ?_) fun hlt A4 hp => ?_
    · rw [BA_size] at hge
      rw [List.drop_of_length_le hge, scanE_nil] at hw
      rw [hw] at H
      exact ev_pure (ev_pure (H A3 hp.tail))
    rw [BA_size] at hlt
    rw [decode_BA] at hp ⊢
    have hle := rune_len_drop hlt
    obtain ⟨c, t', e⟩ := drop_cons hlt
    have hpos2 := rune_pos (s.drop pos)
    rw [e, scanE_cons, ← e, List.drop_drop] at hw
    have next : ∀ m', scanE true s = ((scanE m' (s.drop (pos + (rune (s.drop pos)).2))).map (· + (rune (s.drop pos)).2)).map (· + pos) → scanE true s = (scanE m' (s.drop (pos + (rune (s.drop pos)).2))).map (· + (pos + (rune (s.drop pos)).2)) := fun m' h => by
      rw [h, Option.map_map]
      congr 1
      funext x
      show x + _ + pos = _
      omega
    generalize hR : rune (s.drop pos) = R at *
    obtain ⟨r, m⟩ := R
    simp only at *
    simp only [M.join]
    refine ev_ite (fun hm => ?_) fun hm => ?_
    · rw [if_pos hm] at hw
      exact ev_pure ⟨_, by omega, _, rfl, hle, hp, next _ hw⟩
    rw [if_neg (by rw [hm]; simp)] at hw
    refine ev_ite (fun h1 => ?_) fun h1 => ?_
    · rw [show (92 : Int) = ((92 : Nat) : Int) from rfl, eqB_nat, decide_eq_true_eq] at h1
      rw [if_pos h1] at hw
      exact ev_pure ⟨_, by omega, _, rfl, hle, hp, next _ hw⟩
    rw [show (92 : Int) = ((92 : Nat) : Int) from rfl, eqB_nat, decide_eq_false_iff_not] at h1
    rw [if_neg h1] at hw
    refine ev_ite (fun h2 => ?_) fun h2 => ?_
    · rw [show (34 : Int) = ((34 : Nat) : Int) from rfl, eqB_nat, decide_eq_true_eq] at h2
      rw [if_pos h2] at hw
      rw [hw] at H
      refine ev_pure (ev_pure ?_)
      rw [show (1 : Int) = ((1 : Nat) : Int) from rfl, addW_i64 (by omega), Nat.add_comm]
      exact H A4 hp.tail
    · rw [show (34 : Int) = ((34 : Nat) : Int) from rfl, eqB_nat, decide_eq_false_iff_not] at h2
      rw [if_neg h2] at hw
      exact ev_pure ⟨_, by omega, _, rfl, hle, hp, by rw [hm]; exact next _ hw⟩
  · rw [decide_eq_false h34]
    have : endN s = none := by
      unfold endN
      cases s with
      | nil => rfl
      | cons c t =>
        simp only
        rw [if_neg fun e => h34 ((take_one _).2 ⟨t, by rw [e]⟩)]
    rw [this] at H
    exact ev_t rfl (ev_pure (H A1 hp))
/-- What Unquote hands back. -/
def unqV : Option (List UInt8 × List UInt8) → Value
  | some (b, r) => .tuple ⟨[.string (BA b), .string (BA r), .bool true]⟩
  | none => .tuple ⟨[.string (BA []), .string (BA []), .bool false]⟩
theorem unqG_eq (s : List UInt8) : unqG s = (endN s).bind fun to => (readG ((s.take (to - 1)).drop 1)).bind fun b => if word b = s.take to then some (b, s.drop to) else none := by
  unfold unqG endN
  cases s with
  | nil => rfl
  | cons c t =>
    simp only
    by_cases hc : c = 34
    · rw [if_pos hc, if_pos hc]
      cases scanE true (c :: t) with
      | none => rfl
      | some to =>
        simp only [Option.bind_some]
        cases readG (((c :: t).take (to - 1)).drop 1) <;> rfl
    · rw [if_neg hc, if_neg hc]; rfl
theorem hex_of : ∀ c : Fin 256, Lib.indexByte [48, 49, 50, 51, 52, 53, 54, 55, 56, 57, 97, 98, 99, 100, 101, 102] (UInt8.ofNat c.val) = (match hexv (UInt8.ofNat c.val) with | some v => (v : Int) | none => -1) := by decide +kernel
theorem hex_ix (c : UInt8) : Lib.indexByte [48, 49, 50, 51, 52, 53, 54, 55, 56, 57, 97, 98, 99, 100, 101, 102] c = (match hexv c with | some v => (v : Int) | none => -1) := by
  have := hex_of ⟨c.toNat, c.toNat_lt⟩
  simpa using this
theorem hexv_lt {c : UInt8} {v : Nat} (h : hexv c = some v) : v < 16 := by
  unfold hexv at h
  split at h
  · obtain rfl := Option.some.inj h; omega
  · split at h
    · obtain rfl := Option.some.inj h; omega
    · cases h
theorem dig_lit : st1 = BA [48, 49, 50, 51, 52, 53, 54, 55, 56, 57, 97, 98, 99, 100, 101, 102] := rfl
theorem byte_lit (c : UInt8) : (Value.int .u8 (((c.toNat : Nat)) : Int)) = .int .u8 (c.toNat : Int) := rfl
theorem unquoteG (s : List UInt8) (hs : s.length < 2 ^ 36) (hr : Runes os) : Gives (tabsOf os) (XX os) 5 7 [.string (BA s)] (unqV (unqG s)) := by
  intro A l Q hp H
  refine t7 (d := 4) (BA s, ()) fun n hn => ?_
  unfold f7
  refine ev_call (endG s (by omega) A l _ hp (fun A1 hp => ?_) n (by omega))
  rw [unqG_eq] at H
  cases he : endN s with
  | none =>
    rw [he] at H
    exact ⟨_, rfl, ev_t (by decide) (ev_pure (H A1 hp))⟩
  | some to =>
    rw [he] at H
    have hto : 2 ≤ to ∧ to ≤ s.length := by
      unfold endN at he
      cases s with
      | nil => cases he
      | cons c t =>
        simp only at he
        split at he
        · exact scanE_two he
        · cases he
    refine ⟨(to : Int), rfl, ?_⟩
    refine ev_f (by rw [show (0 : Int) = ((0 : Nat) : Int) from rfl, ltB_nat]; exact decide_eq_false (by omega)) ?_
    simp only [upB_nat, BA_size, Int.toNat_natCast, BA_extract, List.drop_zero]
    refine ev_guard (decide_eq_true hto.2) ?_
    rw [subW_1 (by omega) (by omega)]
    simp only [upB_nat, upB_1, Int.toNat_natCast, List.length_take]
    refine ev_guard (decide_eq_true (by omega)) (ev_guard (decide_eq_true (by omega)) ?_)
    rw [show Int.toNat 1 = 1 from rfl, List.take_take, show min (to - 1) to = to - 1 by omega]
    unfold f7c3
    simp only [Option.bind_some] at H
    generalize hin : (s.take (to - 1)).drop 1 = ins at *
    have hil : ins.length < 2 ^ 36 := by rw [← hin, List.length_drop, List.length_take]; omega
    refine ev_bind (ev_LL (fun m st A' => ∃ bs rs, st.2.1 = BA rs ∧ m = rs.length ∧ rs.length + bs.length ≤ ins.length ∧ Hp (tabsOf os) A' (.vec 5 1 false st.1.1 st.1.2.1 st.1.2.2 (u8s bs) :: l) ∧ readG ins = (readG rs).map (bs ++ ·)) (m := ins.length)
      ⟨[], ins, rfl, rfl, by simp, hp.vec0 5 1 false, by cases readG ins <;> simp⟩ (by omega) ?_)
    rintro m ⟨sl, rest, _⟩ A3 ⟨bs, rs, hrs, rfl, hlen, hp, hw⟩
    simp only at hrs hp
    subst hrs
    simp only
    have hsl : sl.2.1 = bs.length := by
      have := (hp.own 0 _ rfl).1
      rw [u8s_length] at this
      omega
    have app : ∀ {ρ' : Type} {Q' : ρ' → AW → Prop} {A4 : AW} {K : Option Addr → Nat → Nat → M ρ'} (x : UInt8) (v : Int), v = (x.toNat : Int) → Hp (tabsOf os) A4 (.vec 5 1 false sl.1 sl.2.1 sl.2.2 (u8s bs) :: l) →
        (∀ A5 a n, Hp (tabsOf os) A5 (.vec 5 1 false a n n (u8s (bs ++ [x])) :: l) → Ev (K a n n) A5 Q') → Ev (M.new (.cells (Row.ofList [(.int .u8 v)]) 5 false (0, 0) false) fun b => M.append 5 1 1 sl.1 sl.2.1 sl.2.2 (.slice (some (Addr.mk b 0 none)) 1 1) K) A4 Q' := fun {_ _ A4 K} x v hv hp HK => by
      subst hv
      refine ev_new hp fun b A5 hp => ?_
      refine ev_append_row 1 0 hp rfl rfl rfl (Nat.le_refl _) (Nat.le_refl _) (by rw [hsl]; omega) rfl fun A6 a' hp => ?_
      exact HK A6 a' _ (by rw [u8s_append]; exact hp.tail)
    refine ev_ite (fun hne => ?_) fun hne => ?_
    · rw [show st0 = BA [] from rfl, BA_seq] at hne
      have hne : rs ≠ [] := by simpa using hne
      refine ev_join (fun j A' => ∃ bs' k, j.2.1 = ((k : Nat) : Int) ∧ 1 ≤ k ∧ k ≤ rs.length ∧ Hp (tabsOf os) A' (.vec 5 1 false j.1.1 j.1.2.1 j.1.2.2 (u8s bs') :: l) ∧ readG ins = (readG (rs.drop k)).map (bs' ++ ·) ∧ rs.length - k + bs'.length ≤ ins.length) ?_ fun go hgo => ?_
      · rintro ⟨sl', k, _⟩ A4 ⟨bs', k', hk, g1, g2, g3, g4, g5⟩
        simp only at hk g3
        subst hk
        simp only [upB_nat, BA_size, Int.toNat_natCast, BA_till]
        exact ev_guard (decide_eq_true g2) (ev_pure ⟨_, by omega, bs', rs.drop k', rfl, (List.length_drop).symm, by rw [List.length_drop]; omega, g3, g4⟩)
      rw [show st2 = BA [92, 120] from rfl]
      simp only [M.join]
      refine ((prefixG rs [92, 120]).mono (show 2 ≤ 4 by decide)).use hn hp rfl fun A4 hp => ?_
      have one : ∀ (x : UInt8) (t : List UInt8) (k : Nat), 1 ≤ k → k ≤ rs.length → rs.drop k = t → readG rs = (readG t).map (x :: ·) → readG ins = (readG (rs.drop k)).map ((bs ++ [x]) ++ ·) := fun x t k _ _ h1 h2 => by
        rw [hw, h2, h1, Option.map_map]
        congr 1
        funext z
        simp
      obtain ⟨c, t, rfl⟩ : ∃ c t, rs = c :: t := by
        cases rs with
        | nil => exact absurd rfl hne
        | cons c t => exact ⟨c, t, rfl⟩
      by_cases hesc : c = 92 ∧ ∃ a b t2, t = 120 :: a :: b :: t2
      · obtain ⟨rfl, a, b, t2, rfl⟩ := hesc
        refine ev_t (by simp) ?_
        unfold f7c2
        simp only [inB_2, inB_3, BA_size]
        refine ev_t (by rw [leB_lit']; simp) (ev_guard (by simp) (ev_guard (by simp) ?_))
        have ea : byteAt (BA (92 :: 120 :: a :: b :: t2)) 2 = (a.toNat : Int) := rfl
        have eb : byteAt (BA (92 :: 120 :: a :: b :: t2)) 3 = (b.toNat : Int) := rfl
        rw [ea, eb, dig_lit]
        refine ((indexG _ a).mono (show 2 ≤ 4 by decide)).use hn hp rfl fun A5 hp => ?_
        refine ((indexG _ b).mono (show 2 ≤ 4 by decide)).use hn hp rfl fun A6 hp => ?_
        rw [hex_ix, hex_ix]
        unfold f7c0
        simp only [M.join]
        have bad : hexv a = none ∨ hexv b = none → unqV ((readG ins).bind fun b => if word b = s.take to then some (b, s.drop to) else none) = unqV none := fun h => by
          rw [hw, readG_bad a b t2 h]; rfl
        cases ha : hexv a with
        | none =>
          rw [bad (.inl ha)] at H
          exact ev_t (by simp only; decide) (ev_t rfl (ev_pure (ev_pure (H A6 hp.tail))))
        | some u =>
          have hu := hexv_lt ha
          refine ev_f (by simp only; exact ltB_0 _) ?_
          cases hb : hexv b with
          | none =>
            rw [bad (.inr hb)] at H
            exact ev_t (by simp only; decide) (ev_pure (ev_pure (H A6 hp.tail)))
          | some v =>
            have hv := hexv_lt hb
            refine ev_f (by simp only; exact ltB_0 _) (ev_guard (by decide) ?_)
            simp only
            refine app (UInt8.ofNat (16 * u + v)) _ ?_ hp fun A7 a' n' hp => ?_
            · rw [show IntKind.i64.wrap ((u : Int) * 2 ^ min (Int.toNat 4) IntKind.i64.bits) = ((u * 2 ^ 4 : Nat) : Int) from wrap_nat (by show u * 2 ^ 4 ≤ 9223372036854775807; omega),
                orW_nat .i64 (by show u * 2 ^ 4 ≤ 9223372036854775807; omega) (by show v ≤ 9223372036854775807; omega), or_low (by omega), wrapU8, UInt8.toNat_ofNat']
              exact congrArg _ (by omega)
            · refine hgo _ A7 ⟨bs ++ [UInt8.ofNat (16 * u + v)], 4, rfl, by decide, by simp, hp, one _ t2 4 (by decide) (by simp) rfl (readG_hex a b t2 ha hb), ?_⟩
              simp only [List.length_append, List.length_cons, List.length_nil] at hlen ⊢
              omega
      · refine ev_ite (fun hpre => ?_) fun hpre => ?_
        all_goals
          unfold f7c2
          refine ev_f ?_ ?_
        case refine_1.refine_1 =>
          simp only
          rw [leB_lit']
          refine decide_eq_false fun h4 => hesc ?_
          rw [decide_eq_true_eq] at hpre
          match t, h4, hpre with
          | [], _, h => simp at h
          | [x], h4, _ => simp [BA_size] at h4
          | [x, y], h4, _ => simp [BA_size] at h4
          | x :: a :: b :: t2, _, h =>
            simp at h
            exact ⟨h.1, a, b, t2, by rw [h.2]⟩
        case refine_2.refine_1 => rfl
        all_goals
          simp only [M.join, inB_0, BA_size]
          refine ev_guard (by simp) ?_
          have e0 : byteAt (BA (c :: t)) 0 = (c.toNat : Int) := rfl
          rw [e0, eqB_lit]
          refine ev_ite (fun hc => ?_) fun hc => ?_
          · rw [decide_eq_true_eq] at hc
            obtain rfl : c = 92 := UInt8.toNat_inj.1 hc
            unfold f7c1
            simp only [inB_0, inB_1, BA_size]
            refine ev_ite (fun h2 => ?_) fun h2 => ?_
            · rw [leB_lit', decide_eq_true_eq] at h2
              obtain ⟨x, t', rfl⟩ : ∃ x t', t = x :: t' := by
                cases t with
                | nil => simp at h2
                | cons x t' => exact ⟨x, t', rfl⟩
              refine ev_guard (by simp) ?_
              refine app x _ rfl hp fun A7 a' n' hp => hgo _ A7 ⟨bs ++ [x], 2, rfl, by decide, by simp, hp, one x t' 2 (by decide) (by simp) rfl (readG_short x t' fun ⟨e1, e2⟩ => hesc ⟨rfl, ?_⟩), ?_⟩
              · match t', e2 with
                | [], h => simp at h
                | [_], h => simp at h
                | a :: b :: t2, _ => exact ⟨a, b, t2, by rw [e1]⟩
              · simp only [List.length_append, List.length_cons, List.length_nil] at hlen ⊢
                omega
            · rw [leB_lit', decide_eq_false_iff_not] at h2
              obtain rfl : t = [] := by
                cases t with
                | nil => rfl
                | cons x t' => simp at h2
              refine ev_guard (by simp) ?_
              refine app 92 _ rfl hp fun A7 a' n' hp => hgo _ A7 ⟨bs ++ [92], 1, rfl, by decide, by simp, hp, one 92 [] 1 (by decide) (by simp) rfl (by rw [readG_back, readG_nil]; rfl), ?_⟩
              simp only [List.length_append, List.length_cons, List.length_nil] at hlen ⊢
              omega
          · rw [decide_eq_false_iff_not] at hc
            have hc : c ≠ 92 := fun e => hc (by rw [e]; rfl)
            unfold f7c1
            simp only [inB_0, BA_size]
            refine ev_f rfl (ev_guard (by simp) ?_)
            refine app c _ rfl hp fun A7 a' n' hp => hgo _ A7 ⟨bs ++ [c], 1, rfl, by decide, by simp, hp, one c t 1 (by decide) (by simp) rfl (readG_cons c t hc), ?_⟩
            simp only [List.length_append, List.length_cons, List.length_nil] at hlen ⊢
            omega
    · rw [show st0 = BA [] from rfl, BA_seq] at hne
      obtain rfl : rs = [] := by simpa using hne
      rw [readG_nil] at hw
      rw [hw] at H
      simp only [Option.map_some, List.append_nil, Option.bind_some] at H
      refine ev_pure ?_
      simp only [Round, M.sum]
      refine ev_toStr 0 hp rfl ?_
      refine (quoteGG bs (by omega) hr).use hn hp rfl fun A4 hp => ?_
      rw [BA_seq]
      by_cases hwd : word bs = s.take to
      · rw [if_pos hwd] at H
        refine ev_f (by rw [decide_eq_true hwd]; rfl) (ev_guard (by rw [upB_nat, BA_size]; exact decide_eq_true hto.2) ?_)
        refine ev_toStr 0 hp rfl (ev_pure ?_)
        rw [Int.toNat_natCast, BA_from]
        exact H A4 hp.tail
      · rw [if_neg hwd] at H
        exact ev_t (by rw [decide_eq_false hwd]; rfl) (ev_pure (H A4 hp.tail))
end
end Go.Proofs.YtlcigkdflbfdgaaDoor.sh
