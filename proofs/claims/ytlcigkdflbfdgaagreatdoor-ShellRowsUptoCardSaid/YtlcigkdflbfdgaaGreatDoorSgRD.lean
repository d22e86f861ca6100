/-
 Walks: RL, RC, RD.
-/
import Derived.Test.YtlcigkdflbfdgaaGreatDoorSgR8
import Derived.Test.YtlcigkdflbfdgaaGreatDoorSgRB
import Derived.Test.YtlcigkdflbfdgaaGreatDoorSgWV
import Derived.Test.YtlcigkdflbfdgaaGreatDoorSgWY
namespace Go.Proofs.YtlcigkdflbfdgaaGreatDoor.sg
set_option linter.unusedVariables false
open Go Go.Eng Go.Sh
/-- The lines of a text; is the last one ended? -/
inductive Lines : List UInt8 → List (List UInt8) → Bool → Prop where
 | nil : Lines [] [] true
 | none {s : List UInt8} (h : s ≠ []) (hc : cutAt 10 s = none) : Lines s [s] false
 | some {s : List UInt8} {p : List UInt8 × List UInt8} {t : List (List UInt8)} {b : Bool} (hc : cutAt 10 s = some p) (h : Lines p.2 t b) : Lines s (p.1 :: t) b
theorem lines_nil {s : List UInt8} {b : Bool} (h : Lines s [] b) : s = [] ∧ b = true := by
 cases h; exact ⟨rfl, rfl⟩
theorem strs_snoc (a : List (List UInt8)) (x : List UInt8) : strs (a ++ [x]) = strs a ++ [.string (BA x)] := by unfold strs; rw [List.map_append]; rfl
section
variable {os : List (Nat × AObj)} {A : AW} {Q : Value → AW → Prop} {l : List Thing}
abbrev lns (sl : SL) (L : List (List UInt8)) (l : List Thing) : List Thing := .vec 9 1 false sl.1 sl.2.1 sl.2.2 (strs L) :: l
theorem lns_len {sl : SL} {L : List (List UInt8)} (hp : Hp (tabsOf os) A (lns sl L l)) : sl.2.1 = L.length ∧ sl.2.2 = L.length := by
 have h := hp.own 0 _ rfl
 have := h.1
 have := h.2.1
 rw [strs_len] at *
 omega
theorem ev_ln {ρ : Type} {Q : ρ → AW → Prop} {sl : SL} {L : List (List UInt8)} {K : Option Addr → Nat → Nat → M ρ} (x : List UInt8) (hp : Hp (tabsOf os) A (lns sl L l)) (hb : L.length < 2 ^ 40)
  (HK : ∀ A' a n, Hp (tabsOf os) A' (lns (a, n, n) (L ++ [x]) l) → Ev (K a n n) A' Q) : Ev (M.new (.cells (Row.ofList [(.string (BA x))]) 9 false (0, 0) false) fun b => M.append 9 1 16 sl.1 sl.2.1 sl.2.2 (.slice (some (Addr.mk b 0 none)) 1 1) K) A Q := by
 obtain ⟨hsl, _⟩ := lns_len hp
 refine ev_new hp fun b A5 hp => ?_
 refine ev_append_row 1 0 hp rfl rfl rfl (Nat.le_refl _) (by decide) (by rw [hsl]; omega) rfl fun A6 a' hp => ?_
 exact HK A6 a' _ (by unfold lns; rw [strs_snoc]; exact hp.tail)
theorem ev_lnth {ρ : Type} {Q : ρ → AW → Prop} (j : Nat) {e : Nat} {ish : Bool} {a : Option Addr} {n c : Nat} {L : List (List UInt8)} {l : List Thing} {i : Nat} {K : ByteArray → M ρ} (hp : Hp (tabsOf os) A l) (hj : l[j]? = some (.vec e 1 ish a n c (strs L))) (hi : i < L.length) (H : Ev (K (BA (L[i]'hi))) A Q) :
  Ev (M.deref a fun a => M.load (.cell .string) 1 (a.add (i * 1)) fun (x : ByteArray) => K x) A Q := by
 obtain ⟨h1, h2, h3⟩ := hp.own j _ hj
 rw [strs_len] at h1
 cases a with
 | none => have h3 : n = 0 := h3; omega
 | some a =>
  obtain ⟨ha, _⟩ := h3
  rw [ha] at hj ⊢
  show Ev (M.load _ _ _ _) A Q
  rw [Nat.mul_one, add0]
  refine ev_load j hp hj rfl rfl (by rw [strs_len]; exact hi) (x := BA (L[i]'hi)) ?_ H
  have : ((strs L).drop i).take 1 = [.string (BA (L[i]'hi))] := by
   apply List.ext_getElem?
   intro k
   rw [List.getElem?_take, List.getElem?_drop]
   cases k with
   | zero => simp [strs, List.getElem?_eq_getElem hi]
   | succ k => simp
  rw [this]
  rfl
theorem linesG (s : List UInt8) (hs : s.length < 2 ^ 36) (hp : Hp (tabsOf os) A l)
  (H : ∀ A' a L b, Hp (tabsOf os) A' (lns (a, L.length, L.length) L l) → L.length ≤ s.length + 1 → Lines s L b → Q (.tuple ⟨[.slice a L.length L.length, .bool b]⟩) A') : Goes (XX os) 1 23 [.string (BA s)] A Q := by
 refine t23 (d := 0) (BA s, ()) fun n hn => ?_
 simp only [f23, f23c1, f23c0, BA_size]
 refine ev_bind (ev_LL (fun μ st A' => ∃ (i fr : Nat) (a : Option Addr) (L : List (List UInt8)), μ = s.length - i ∧ i ≤ s.length ∧ fr ≤ i ∧ st = ((a, L.length, L.length), (fr : Int), (i : Int), ()) ∧ Hp (tabsOf os) A' (lns (a, L.length, L.length) L l) ∧ L.length ≤ i ∧
  (10 : UInt8) ∉ (s.take i).drop fr ∧ ∀ t b, Lines (s.drop fr) t b → Lines s (L ++ t) b) (m := s.length) ⟨0, 0, none, [], rfl, by omega, by omega, rfl, hp.vec0 _ 1 false, by simp, by simp, fun t b h => h⟩ (by omega) ?_)
 rintro μ st A1 ⟨i, fr, a, L, rfl, hi, hfr, rfl, hp, hLi, hno, hL⟩
 simp only [ltB_nat]
 have hsp : s.drop fr = (s.take i).drop fr ++ s.drop i := by
  have := congrArg (List.drop fr) (List.take_append_drop i s)
  rw [List.drop_append_of_le_length (by rw [List.length_take]; omega)] at this
  exact this.symm
 refine ev_ite (fun h => ?_) fun h => ?_
 ·have h := of_decide_eq_true h
  have hgo : ∀ A2 (fr' : Nat) (a' : Option Addr) (n' : Nat) (L' : List (List UInt8)), n' = L'.length → fr' ≤ i + 1 → Hp (tabsOf os) A2 (lns (a', L'.length, L'.length) L' l) → L'.length ≤ i + 1 → (10 : UInt8) ∉ (s.take (i + 1)).drop fr' → (∀ t b, Lines (s.drop fr') t b → Lines s (L' ++ t) b) →
    ∃ (i1 fr : Nat) (a : Option Addr) (L : List (List UInt8)), s.length - (i + 1) = s.length - i1 ∧ i1 ≤ s.length ∧ fr ≤ i1 ∧ (((a', n', n'), (fr' : Int), (addW .i64 (i : Int) 1), ()) : SL × Int × Int × Unit) = ((a, L.length, L.length), (fr : Int), (i1 : Int), ()) ∧ Hp (tabsOf os) A2 (lns (a, L.length, L.length) L l) ∧ L.length ≤ i1 ∧
     (10 : UInt8) ∉ (s.take i1).drop fr ∧ ∀ t b, Lines (s.drop fr) t b → Lines s (L ++ t) b := fun A2 fr' a' n' L' e h1 h2 h3 h4 h5 => by
   subst e
   exact ⟨i + 1, fr', a', L', rfl, by omega, h1, by rw [addW_1 (by omega)], h2, h3, h4, h5⟩
  have hdr : s.drop i = s[i] :: s.drop (i + 1) := List.drop_eq_getElem_cons h
  refine ev_join (fun j A' => ∃ (fr' : Nat) (a' : Option Addr) (n' : Nat) (L' : List (List UInt8)), j = ((a', n', n'), (fr' : Int), ()) ∧ n' = L'.length ∧ fr' ≤ i + 1 ∧ Hp (tabsOf os) A' (lns (a', L'.length, L'.length) L' l) ∧ L'.length ≤ i + 1 ∧ (10 : UInt8) ∉ (s.take (i + 1)).drop fr' ∧ (∀ t b, Lines (s.drop fr') t b → Lines s (L' ++ t) b)) ?_ fun go hgo2 => ?_
  ·rintro _ A2 ⟨fr', a', n', L', rfl, h0, h1, h2, h3, h4, h5⟩
   exact ev_pure ⟨s.length - (i + 1), by omega, hgo A2 fr' a' n' L' h0 h1 h2 h3 h4 h5⟩
  refine ev_guard (by rw [inB_nat]; exact decide_eq_true h) ?_
  have e1 : byteAt (BA s) (i : Int) = ((s[i]).toNat : Int) := by
   rw [at_byteAt]
   unfold at'
   rw [List.getElem?_eq_getElem h]; rfl
  rw [e1, eqB_byteL _ 10 10 rfl]
  refine ev_ite (fun h1 => ?_) fun h1 => ?_
  ·have h1 := of_decide_eq_true h1
   rw [h1] at hdr
   refine ev_guard (by rw [upB_nat]; exact decide_eq_true hi) (ev_guard (by rw [Int.toNat_natCast, upB_nat]; exact decide_eq_true hfr) ?_)
   rw [Int.toNat_natCast, Int.toNat_natCast, BA_extract]
   refine ev_ln (sl := (a, L.length, L.length)) ((s.take i).drop fr) hp (by omega) fun A4 a n hp => ?_
   obtain ⟨hn1, _⟩ := lns_len hp
   simp only at hn1
   subst hn1
   rw [addW_1 (by omega)]
   refine hgo2 _ A4 ⟨i + 1, a, _, _, rfl, rfl, by omega, hp, by rw [List.length_append]; simp only [List.length_cons, List.length_nil]; omega, ?_, fun t b ht => ?_⟩
   ·rw [List.drop_of_length_le (by rw [List.length_take]; omega)]; simp
   ·rw [List.append_assoc]
    refine hL _ b (.some (p := ((s.take i).drop fr, s.drop (i + 1))) ?_ ht)
    rw [hsp, hdr]
    exact cutAt_app _ hno
  ·have h1 := of_decide_eq_false h1
   refine hgo2 _ A1 ⟨fr, a, _, L, rfl, rfl, by omega, hp, by omega, ?_, hL⟩
   have htk : s.take (i + 1) = s.take i ++ [s[i]] := by rw [List.take_add_one, List.getElem?_eq_getElem h]; rfl
   rw [htk, List.drop_append_of_le_length (by rw [List.length_take]; omega)]
   intro hm
   rcases List.mem_append.1 hm with hm | hm
   ·exact hno hm
   ·exact h1 (List.mem_singleton.1 hm).symm
 ·have h := of_decide_eq_false h
  obtain rfl : i = s.length := by omega
  rw [List.take_length] at hno
  refine ev_pure ?_
  simp only [Round, M.sum, ltB_nat]
  refine ev_ite (fun h2 => ?_) fun h2 => ?_
  ·have h2 := of_decide_eq_true h2
   refine ev_guard (by rw [upB_nat]; exact decide_eq_true (by omega)) ?_
   rw [Int.toNat_natCast, BA_till]
   refine ev_ln (sl := (a, L.length, L.length)) (s.drop fr) hp (by omega) fun A4 a n hp => ?_
   obtain ⟨hn1, _⟩ := lns_len hp
   simp only at hn1
   subst hn1
   refine ev_pure (H A4 a _ false hp (by rw [List.length_append]; simp only [List.length_cons, List.length_nil]; omega) (hL _ _ (.none ?_ (cutAt_of_not hno))))
   intro e
   have := congrArg List.length e
   rw [List.length_drop] at this
   simp only [List.length_nil] at this
   omega
  ·have h2 := of_decide_eq_false h2
   have := hL [] true (by rw [List.drop_of_length_le (by omega)]; exact .nil)
   rw [List.append_nil] at this
   exact ev_pure (H A1 a L true hp (by omega) this)
end
end Go.Proofs.YtlcigkdflbfdgaaGreatDoor.sg
namespace Go.Proofs.YtlcigkdflbfdgaaGreatDoor.sg
set_option linter.unusedVariables false
open Go Go.Eng Go.Sh
section
variable {os : List (Nat × AObj)} {A : AW} {Q : Value → AW → Prop} {l D : List Thing}
theorem refRowsTextG {a : Option Addr} {c : Nat} {L : List Value} {xs : List Rw} (hro : RowsAt (tabsOf os) D a xs.length 9 L) (hall : AllAt (RwAt (tabsOf os) D) 9 L xs) (hD : ∀ t ∈ D, t ∈ l) (hf : ∀ x ∈ xs, Small x) (hn : xs.length < 2 ^ 38) (hW : (catV rlV xs).length < 2 ^ 38) (hp : Hp (tabsOf os) A l)
  (H : ∀ A', Hp (tabsOf os) A' l → Q (.tuple ⟨[.string (BA (textR rowO xs).1), .int .i64 (textR rowO xs).2]⟩) A') : Goes (XX os) 4 13 [.slice a xs.length c] A Q := by
 refine t13 (d := 3) ((a, xs.length, c), ()) fun n hn' => ?_
 unfold f13 f13c1
 refine ev_bind (ev_LL (fun μ st A' => ∃ i a', μ = xs.length - i ∧ i ≤ xs.length ∧ st = ((a', (catV rlV (xs.take i)).length, (catV rlV (xs.take i)).length), ((i : Nat) : Int), ()) ∧ Hp (tabsOf os) A' (bts (a', (catV rlV (xs.take i)).length, (catV rlV (xs.take i)).length) (catV rlV (xs.take i)) l) ∧ ∀ x ∈ xs.take i, rowO x = some (rlV x)) (m := xs.length)
  ⟨0, none, rfl, by omega, rfl, hp.vec0 5 1 false, by simp⟩ (by omega) ?_)
 rintro μ st A2 ⟨i, a', rfl, hi, rfl, hp, hok⟩
 simp only [ltB_nat]
 refine ev_ite (fun h => ?_) fun h => ?_
 ·have h := of_decide_eq_true h
  refine ev_guard ((inB_nat i _).trans (decide_eq_true h)) ?_
  obtain ⟨b1, rfl⟩ := hro.some (hp.has fun t ht => .tail _ (hD t ht)) h
  obtain ⟨d, e, hc, hsee, hre, hee⟩ := hall.2 i h
  have hx := hf xs[i] (List.getElem_mem _)
  have hle := catV_le rlV xs (i + 1)
  rw [catV_next rlV h, List.length_append, List.length_append] at hle
  have hnx := catV_next rlV h
  have hmem : xs[i] ∈ xs := List.getElem_mem _
  have htk : xs.take (i + 1) = xs.take i ++ [xs[i]] := by rw [List.take_add_one, List.getElem?_eq_getElem h]; rfl
  refine ev_rec (i := i) hp (fun t ht => .tail _ (hD t ht)) hro h (x := (xs[i].kind, xs[i].err, xs[i].is, d, xs[i].s1, xs[i].s2, xs[i].s3, xs[i].s4, e, ())) (by rw [hc]; rfl) ?_
  unfold f13c0
  generalize xs[i] = x at *
  refine (refRowLineG x d e hsee hre hee (fun t ht => .tail _ (hD t ht)) hx hp fun A5 hp => ⟨(BA ((rowO x).getD []), (rowO x).isSome, ()), rfl, ?_⟩).use hn'
  cases hl : rowO x with
  | none =>
   refine ev_t rfl (ev_pure (ev_pure ?_))
   have : textR rowO xs = ([], 1) := by unfold textR; rw [write_none rowO hmem hl]
   rw [this] at H
   exact H A5 hp.tail
  | some t =>
   obtain rfl : t = rlV x := by
    unfold rowO at hl
    split at hl
    ·exact (Option.some.inj hl).symm
    ·cases hl
   refine ev_f rfl ?_
   have h1 : [(10 : UInt8)].length = 1 := rfl
   simp only [Option.getD_some]
   refine ev_bytes_str (rlV x) hp (by omega) fun A6 a6 n6 hp => ?_
   refine ev_bytes (sl := (a6, n6, n6)) [10] hp rfl rfl (by rw [List.length_append]; omega) fun A7 a7 n7 hp => ?_
   have hn7 := bts_len hp
   simp only at hn7
   have he : catV rlV (xs.take i) ++ rlV x ++ [10] = catV rlV (xs.take (i + 1)) := by rw [hnx, List.append_assoc]
   rw [he] at hp hn7
   subst hn7
   refine ev_pure ⟨xs.length - (i + 1), by omega, i + 1, a7, rfl, by omega, by rw [addW_1 (by omega)], hp, fun y hy => ?_⟩
   rw [htk] at hy
   rcases List.mem_append.1 hy with hy | hy
   ·exact hok y hy
   ·rw [List.mem_singleton.1 hy]; exact hl
 ·have h := of_decide_eq_false h
  rw [List.take_of_length_le (by omega)] at hp hok ⊢
  refine ev_pure ?_
  simp only [Round, M.sum]
  have hw := write_all rlV rowO xs hok
  rw [ltB_lit']
  refine ev_ite (fun h2 => ?_) fun h2 => ?_
  ·have h2 := of_decide_eq_true h2
   have : textR rowO xs = ([], 3) := by unfold textR; rw [hw]; exact if_pos h2
   rw [this] at H
   exact ev_pure (H A2 hp.tail)
  ·have h2 := of_decide_eq_false h2
   have : textR rowO xs = (catV rlV xs, 0) := by unfold textR; rw [hw]; exact if_neg h2
   rw [this] at H
   exact ev_toStr 0 hp rfl (ev_pure (H A2 hp.tail))
set_option maxRecDepth 20000 in
theorem refParseRowsG (s : List UInt8) (hs : s.length < 2 ^ 36) (hp : Hp (tabsOf os) A l) (H : ∀ A' E r, Hp (tabsOf os) A' (E ++ l) → ResR (tabsOf os) s E r → Q (prV r) A') : Goes (XX os) 7 16 [.string (BA s)] A Q := by
 refine t16 (d := 6) (BA s, ()) fun n hn => ?_
 unfold f16
 simp only [BA_size]
 rw [ltB_lit']
 refine ev_ite (fun h => ?_) fun h => ?_
 ·exact ev_pure (H A [] ((none, 0, 0), 0, 3, ()) hp (.long (of_decide_eq_true h)))
 have hlen : s.length ≤ 65536 := by have := of_decide_eq_false h; omega
 clear h
 unfold f16c4
 refine ((linesG s hs hp fun A1 a0 L b hp hL0 hL => ⟨((a0, L.length, L.length), b, ()), rfl, ?_⟩).mono (show 1 ≤ 6 by decide)).use hn
 refine ev_bind (ev_LL (fun μ st A' => ∃ (rest : List UInt8) (xs : List Rw) (a : Option Addr) (C : List Value) (D : List Thing) (t : List (List UInt8)), μ = rest.length ∧ st = ((a, xs.length, xs.length), ((xs.length : Nat) : Int), ()) ∧ Hp (tabsOf os) A' (.vec 77 9 false a xs.length xs.length C :: (D ++ lns (a0, L.length, L.length) L l)) ∧ AllAt (RwAt (tabsOf os) D) 9 C xs ∧
  parseV rowV s = behind xs (parseV rowV rest) ∧ xs.length + rest.length ≤ s.length ∧ Lines rest t b ∧ L.drop xs.length = t) (m := s.length) ⟨s, [], none, [], [], L, rfl, rfl, hp.vec0 _ _ _, .nil, (behind_nil _).symm, by simp, hL, rfl⟩ (by omega) ?_)
 rintro μ st A2 ⟨rest, xs, a, C, D, t, rfl, rfl, hp, hall, hpar, hle, hlin, ht⟩
 unfold f16c3
 simp only [ltB_nat]
 refine ev_ite (fun h => ?_) fun h => ?_
 rotate_left
 ·-- all is read
  have h := of_decide_eq_false h
  rw [List.drop_of_length_le (by omega)] at ht
  subst ht
  have hr0 : rest = [] := by cases hlin; rfl
  subst hr0
  rw [parse_nil] at hpar
  have hpar : parseV rowV s = .ok xs := by rw [hpar]; simp [behind]
  refine ev_pure (ev_pure (H A2 (.vec 77 9 false a xs.length xs.length C :: (D ++ [.vec 9 1 false a0 L.length L.length (strs L)])) ((a, xs.length, xs.length), 0, 0, ()) ?_ (.ok hlen xs a C hpar (.vec (.head _) hall.1) (hall.mono fun c x k => k.mono fun t ht => .tail _ (List.mem_append_left _ ht)))))
  rw [List.cons_append, List.append_assoc]
  exact hp
 have h := of_decide_eq_true h
 refine ev_guard ((inB_nat _ _).trans (decide_eq_true h)) ?_
 rw [Int.toNat_natCast]
 have hj : (.vec 77 9 false a xs.length xs.length C :: (D ++ lns (a0, L.length, L.length) L l) : List Thing)[D.length + 1]? = some (.vec 9 1 false a0 L.length L.length (strs L)) := by simp
 refine ev_lnth (D.length + 1) hp hj h ?_
 obtain ⟨one, hone⟩ : ∃ one, one = L[xs.length] := ⟨_, rfl⟩
 rw [← hone]
 have ht2 : one :: L.drop (xs.length + 1) = t := by rw [hone, ← List.drop_eq_getElem_cons h]; exact ht
 have hol : one.length ≤ rest.length := by
  cases hlin with
  | nil => cases ht2
  | none h1 hc => rw [(List.cons.inj ht2).1]; exact Nat.le_refl _
  | some hc h1 => rw [(List.cons.inj ht2).1]; have := cutAt_len hc; omega
 refine (refRowG one (by omega) hp fun A4 D' d e hp hsee hro he => ⟨(((readQ one).1.kind, (readQ one).1.err, (readQ one).1.is, d, (readQ one).1.s1, (readQ one).1.s2, (readQ one).1.s3, (readQ one).1.s4, e, ()), rowQB one, ()), rfl, ?_⟩).use hn
 have hp := hp.perm (l' := .vec 77 9 false a xs.length xs.length C :: ((D' ++ D) ++ lns (a0, L.length, L.length) L l)) (by rw [List.append_assoc]; exact List.perm_middle)
 unfold f16c2
 refine ev_new hp fun b7 A5 hp => ?_
 refine ev_store 0 hp rfl rfl (Nat.le_of_ble_eq_true rfl) rfl fun A6 hp => ?_
 unfold f16c1
 have href := ref_row one (by omega)
 obtain ⟨x, hx⟩ : ∃ x, x = (readQ one).1 := ⟨_, rfl⟩
 rw [← hx] at hp hsee hro he href
 obtain ⟨t7, hp⟩ : ∃ t7, Hp (tabsOf os) A6 (.cells b7 (rwC x d e) t7 false (0, 0) false :: .vec 77 9 false a xs.length xs.length C :: ((D' ++ D) ++ lns (a0, L.length, L.length) L l)) := ⟨_, hp⟩
 refine ev_join (fun j A' => Hp (tabsOf os) A' (.cells b7 (rwC x d e) t7 false (0, 0) false :: .vec 77 9 false a xs.length xs.length C :: ((D' ++ D) ++ lns (a0, L.length, L.length) L l)) ∧ j = (!rowQB one || (!b && decide (xs.length = L.length - 1)), ())) ?_ fun go hgo => ?_
 rotate_left
 ·refine ev_ite (fun h1 => hgo _ A6 ⟨hp, ?_⟩) fun h1 => ?_
  ·have h1 : (!rowQB one) = true := h1
   rw [h1]; rfl
  ·have h1 : (!rowQB one) = false := h1
   rw [h1] at hgo
   refine ev_ite (fun h2 => hgo _ A6 ⟨hp, ?_⟩) fun h2 => hgo _ A6 ⟨hp, ?_⟩
   ·have h2 : (!b) = true := h2
    simp only
    rw [h2, subW_1 (by omega) (by omega), eqB_nat]; rfl
   ·have h2 : (!b) = false := h2
    rw [h2]; rfl
 rintro _ A7 ⟨hp, rfl⟩
 have hone0 : ∀ {p : List UInt8 × List UInt8} {t2 : List (List UInt8)}, one :: L.drop (xs.length + 1) = p.1 :: t2 → one = p.1 ∧ L.drop (xs.length + 1) = t2 := fun e => List.cons.inj e
 refine ev_ite (fun h1 => ?_) fun h1 => ?_
 ·have h1 : (!rowQB one || (!b && decide (xs.length = L.length - 1))) = true := h1
  have hbad : parseV rowV rest = .error 1 := by
   cases hlin with
   | nil => cases ht2
   | none h2 hc => exact parse_none _ h2 hc
   | @some _ p t2 _ hc h2 =>
    obtain ⟨rfl, e2⟩ := hone0 ht2
    refine parse_bad _ hc ?_
    rcases Bool.or_eq_true_iff.1 h1 with h3 | h3
    ·rw [← href, if_neg (by simpa using h3)]
    ·rw [Bool.and_eq_true] at h3
     have h4 := of_decide_eq_true h3.2
     rw [List.drop_of_length_le (by omega)] at e2
     subst e2
     have : b = true := (lines_nil h2).2
     rw [this] at h3
     exact absurd h3.1 (by decide)
  rw [hbad] at hpar
  rw [addW_1 (by omega)]
  exact ev_pure (ev_pure (H A7 [] ((none, 0, 0), ((xs.length + 1 : Nat) : Int), 5, ()) (hp.sub (.cons _ (.cons _ (.trans (List.sublist_cons_self _ _) (List.sublist_append_right _ _))))) (.bad hlen (xs.length + 1) hpar)))
 ·have h1 : (!rowQB one || (!b && decide (xs.length = L.length - 1))) = false := h1
  obtain ⟨h3, h4⟩ := Bool.or_eq_false_iff.1 h1
  have h3 : rowQB one = true := by simpa using h3
  cases hlin with
  | nil => cases ht2
  | none h2 hc =>
   have e2 := congrArg List.length ht2
   simp only [List.length_cons, List.length_nil, List.length_drop] at e2
   rw [decide_eq_true (by omega)] at h4
   cases h4
  | @some _ p t2 _ hc h2 =>
   obtain ⟨e1, e2⟩ := hone0 ht2
   have hf : rowV p.1 = some x := by rw [← e1, ← href, if_pos h3]
   have hcl := cutAt_len hc
   refine ev_load 0 hp rfl rfl rfl (Nat.le_of_ble_eq_true rfl) (x := (x.kind, x.err, x.is, d, x.s1, x.s2, x.s3, x.s4, e, ())) rfl ?_
   unfold f16c0
   refine ev_new hp fun b11 A8 hp => ?_
   refine ev_append_row 2 0 hp rfl rfl (m := 1) rfl (by decide) (by decide) (by show (2 * (xs.length + 1) + 200) * 104 ≤ _; omega) rfl fun A9 a9 hp => ?_
   refine ev_pure ⟨p.2.length, by omega, p.2, xs ++ [x], a9, C ++ rwC x d e, D' ++ D, t2, rfl, ?_, ?_, ?_, ?_, ?_, h2, ?_⟩
   ·rw [List.length_append, addW_1 (by omega)]; rfl
   ·rw [List.length_append]; exact hp.tail.tail
   ·exact AllAt.snoc (hall.mono fun c y h => h.mono fun t ht => List.mem_append_right _ ht) rfl ⟨d, e, rfl, hsee.mono fun t ht => List.mem_append_left _ ht, hro.mono fun t ht => List.mem_append_left _ ht, he⟩
   ·rw [hpar, parse_some _ hc hf, behind_snoc]
   ·rw [List.length_append]; simp only [List.length_cons, List.length_nil]; omega
   ·rw [List.length_append]; exact e2
end
end Go.Proofs.YtlcigkdflbfdgaaGreatDoor.sg
namespace Go.Proofs.YtlcigkdflbfdgaaGreatDoor.sg
set_option linter.unusedVariables false
open Go Go.Eng Go.Sh
theorem resR_both {T : Tabs} {s : List UInt8} {E E2 : List Thing} {r r2 : PR} (q : ResR T s E r) (q2 : ResR T s E2 r2) : ∃ (zs : List Rw) (a : Option Addr) (L : List Value) (a2 : Option Addr) (L2 : List Value) (n e : Int), r = ((a, zs.length, zs.length), n, e, ()) ∧ r2 = ((a2, zs.length, zs.length), n, e, ()) ∧
  RowsAt T E a zs.length 9 L ∧ AllAt (RwAt T E) 9 L zs ∧ RowsAt T E2 a2 zs.length 9 L2 ∧ AllAt (RwAt T E2) 9 L2 zs ∧ zs.length ≤ 65536 ∧ (∀ x ∈ zs, Small x) := by
 cases q with
 | long h =>
  cases q2 with
  | long _ => exact ⟨[], none, [], none, [], 0, 3, rfl, rfl, .nil, .nil, .nil, .nil, by simp, by simp⟩
  | ok h2 => omega
  | bad h2 => omega
 | ok h xs a L he g1 g2 =>
  cases q2 with
  | long h2 => omega
  | ok h2 xs2 a2 L2 he2 k1 k2 =>
   rw [he] at he2
   obtain rfl := Except.ok.inj he2
   have hz := (parse_all _ xs s he).1
   exact ⟨xs, a, L, a2, L2, 0, 0, rfl, rfl, g1, g2, k1, k2, by omega, rows_small h he⟩
  | bad h2 k he2 => rw [he] at he2; cases he2
 | bad h k he =>
  cases q2 with
  | long h2 => omega
  | ok h2 xs2 a2 L2 he2 => rw [he] at he2; cases he2
  | bad h2 k2 he2 =>
   rw [he] at he2
   obtain rfl := Except.error.inj he2
   exact ⟨[], none, [], none, [], k, 5, rfl, rfl, .nil, .nil, .nil, .nil, by simp, by simp⟩
section
variable {os : List (Nat × AObj)} {A : AW} {Q : Value → AW → Prop} {l : List Thing}
theorem shRowsG {a1 : Option Addr} {c1 : Nat} {L1 : List Value} {xs : List Rw} (s : List UInt8) (h1 : RowsAt (tabsOf os) [] a1 xs.length 9 L1) (k1 : AllAt (RwAt (tabsOf os) []) 9 L1 xs) (f1 : FewR xs)
  (hs : s.length < 2 ^ 35) (hr : Runes os) : Gives (tabsOf os) (XX os) 13 4 [.slice a1 xs.length c1, .string (BA s)] (.bool true) := by
 intro A l Q hp H
 have no : ∀ {l : List Thing}, ∀ t ∈ ([] : List Thing), t ∈ l := fun t ht => by cases ht
 refine t4 (d := 12) ((a1, xs.length, c1), BA s, ()) fun n hn => ?_
 unfold f4
 have cx := f1.count
 refine ((rowsTextG h1 k1 no f1.small (by omega) f1.text hr hp fun A1 hp => ⟨(BA (textR rowO xs).1, (textR rowO xs).2, ()), rfl, ?_⟩).mono (show 9 ≤ 12 by decide)).use hn
 refine ((toldG h1 k1 no (by omega) hp fun A2 b2 hp => ⟨(b2, xs.length, xs.length), rfl, ?_⟩).mono (show 1 ≤ 12 by decide)).use hn
 unfold f4c1
 refine ((refRowsTextG (c := xs.length) (D := _) (.vec (.head _) k1.1) (k1.mono fun c x k => k.mono no) (fun t ht => ht) f1.small (by omega) f1.text hp fun A3 hp => ⟨(BA (textR rowO xs).1, (textR rowO xs).2, ()), rfl, ?_⟩).mono (show 4 ≤ 12 by decide)).use hn
 refine ((parseR s (by omega) hr hp fun A4 E r hp q => ⟨r, prV_prj r, ?_⟩).mono (show 11 ≤ 12 by decide)).use hn
 refine ((refParseRowsG s (by omega) hp fun A5 E2 r2 hp q2 => ⟨r2, prV_prj r2, ?_⟩).mono (show 7 ≤ 12 by decide)).use hn
 obtain ⟨zs, a, L, a2, L2, m, e, rfl, rfl, g1, g2, p1, p2, hz, hsm⟩ := resR_both q q2
 refine ev_join (fun j A' => Hp (tabsOf os) A' l ∧ j = (true, ())) ?_ fun go hgo => ?_
 ·rintro _ A6 ⟨hp, rfl⟩
  exact ev_pure (H A6 hp)
 refine ev_t (seq_self _) ?_
 unfold f4c0
 refine ev_t (eqB_self _) ?_
 refine ((toldG g1 g2 (fun t ht => List.mem_append_right _ (List.mem_append_left _ ht)) (by omega) hp fun A6 b3 hp => ⟨(b3, zs.length, zs.length), rfl, ?_⟩).mono (show 1 ≤ 12 by decide)).use hn
 refine ((rowsG (c1 := zs.length) (c2 := zs.length) (D := _) (.vec (.head _) g2.1) (g2.mono fun c x k => k.mono fun t ht => .tail _ (List.mem_append_right _ (List.mem_append_left _ ht))) (p1.mono fun t ht => .tail _ (List.mem_append_left _ ht)) (p2.mono fun c x k => k.mono fun t ht => .tail _ (List.mem_append_left _ ht)) (fun t ht => ht) (by omega) (fun x hx => (hsm x hx).count) hp
  fun A7 hp => ⟨true, rfl, ?_⟩).mono (show 2 ≤ 12 by decide)).use hn
 refine ev_t rfl (ev_t (eqB_self _) (ev_t (eqB_self _) ?_))
 have hp := hp.sub (l' := l) (.cons _ (.trans (.trans (List.sublist_cons_self _ _) (List.sublist_append_right _ _)) (List.sublist_append_right _ _)))
 exact ((wakesG hp ⟨true, rfl, hgo _ A7 ⟨hp, rfl⟩⟩).mono (show 1 ≤ 12 by decide)).use hn
end
end Go.Proofs.YtlcigkdflbfdgaaGreatDoor.sg
