/-
 Walks: WP, WQ, WT, WU, WV.
-/
import Derived.Test.YtlcigkdflbfdgaaGreatDoorSgWO
import Derived.Test.YtlcigkdflbfdgaaGreatDoorPlain
namespace Go.Proofs.YtlcigkdflbfdgaaGreatDoor.sg
set_option linter.unusedVariables false
open Go Go.Eng Go.Sh
section
variable {os : List (Nat × AObj)} {A : AW} {Q : Value → AW → Prop} {l D : List Thing}
theorem take_run (L c : List Value) (i k : Nat) (h : (L.drop (i * k)).take k = c) : L.take ((i + 1) * k) = L.take (i * k) ++ c := by
 rw [← h, Nat.add_mul, Nat.one_mul, List.take_add]
theorem toldG {a : Option Addr} {c : Nat} {L : List Value} {xs : List Rw} (hro : RowsAt (tabsOf os) D a xs.length 9 L) (hall : AllAt (RwAt (tabsOf os) D) 9 L xs) (hD : ∀ t ∈ D, t ∈ l) (hn : xs.length < 2 ^ 38) (hp : Hp (tabsOf os) A l)
  (H : ∀ A' a', Hp (tabsOf os) A' (.vec 77 9 false a' xs.length xs.length L :: l) → Q (.slice a' xs.length xs.length) A') : Goes (XX os) 1 14 [.slice a xs.length c] A Q := by
 refine t14 (d := 0) ((a, xs.length, c), ()) fun n hn' => ?_
 unfold f14
 have hp := hp.vec0 77 9 false
 refine ev_bind (ev_LL (fun μ st A' => ∃ i a', μ = xs.length - i ∧ i ≤ xs.length ∧ st = ((a', i, i), ((i : Nat) : Int), ()) ∧ Hp (tabsOf os) A' (.vec 77 9 false a' i i (L.take (i * 9)) :: l)) (m := xs.length) ⟨0, none, rfl, by omega, rfl, by simpa using hp⟩ (by omega) ?_)
 rintro μ st A1 ⟨i, a', rfl, hi, rfl, hp⟩
 simp only [ltB_nat]
 refine ev_ite (fun h => ?_) fun h => ?_
 ·have h := of_decide_eq_true h
  unfold f14c2
  refine ev_guard ((inB_nat i _).trans (decide_eq_true h)) ?_
  obtain ⟨b, rfl⟩ := hro.some (hp.has fun t ht => .tail _ (hD t ht)) h
  obtain ⟨d, e, hc, hsee, _⟩ := hall.2 i h
  refine ev_rec (i := i) hp (fun t ht => .tail _ (hD t ht)) hro h (x := (xs[i].kind, xs[i].err, xs[i].is, d, xs[i].s1, xs[i].s2, xs[i].s3, xs[i].s4, e, ())) (by rw [hc]; rfl) ?_
  refine ev_new hp fun b5 A2 hp => ?_
  unfold f14c1
  refine ev_store 0 hp rfl rfl (Nat.le_of_ble_eq_true rfl) rfl fun A3 hp => ?_
  refine ev_load 0 hp rfl rfl rfl (Nat.le_of_ble_eq_true rfl) (x := xs[i].kind) rfl ?_
  refine ev_load 0 hp rfl rfl rfl (Nat.le_of_ble_eq_true rfl) (x := xs[i].err) rfl ?_
  refine ev_load 0 hp rfl rfl rfl (Nat.le_of_ble_eq_true rfl) (x := xs[i].is) rfl ?_
  refine ev_load 0 hp rfl rfl rfl (Nat.le_of_ble_eq_true rfl) (x := d) rfl ?_
  refine ev_load 0 hp rfl rfl rfl (Nat.le_of_ble_eq_true rfl) (x := (xs[i].s1, xs[i].s2, xs[i].s3, xs[i].s4, ())) rfl ?_
  unfold f14c0
  refine ev_load 0 hp rfl rfl rfl (Nat.le_of_ble_eq_true rfl) (x := e) rfl ?_
  refine ev_new hp fun b12 A4 hp => ?_
  refine ev_append_row 2 0 hp rfl rfl (m := 1) rfl (by decide) (by decide) (by show (2 * (i + 1) + 200) * 104 ≤ _; omega) rfl fun A5 a9 hp => ?_
  refine ev_pure ⟨xs.length - (i + 1), by omega, i + 1, a9, rfl, by omega, by rw [addW_1 (by omega)], ?_⟩
  rw [take_run L _ i 9 hc]
  exact hp.tail.tail
 ·have h := of_decide_eq_false h
  obtain rfl : i = xs.length := by omega
  rw [List.take_of_length_le (by rw [hall.1]; exact Nat.le_refl _)] at hp
  exact ev_pure (ev_pure (H A1 a' hp))
theorem veqv_rw (x : Rw) (d e : SL) : veqv (.agg ⟨rwC x d e⟩) (.agg ⟨rwC x d e⟩) = true := by
 simp [veqv, veqs, veq1]
theorem eqB_self (a : Int) : eqB a a = true := by rw [eqB_eq]; simp
theorem seq_self (s : List UInt8) : seq (BA s) (BA s) = true := by rw [BA_seq]; simp
/-- Entries that are the same. -/
theorem sameG {a1 a2 : Option Addr} {c1 c2 : Nat} {S : List (Int × List UInt8)} (h1 : RowsAt (tabsOf os) D a1 S.length 2 (entC S)) (h2 : RowsAt (tabsOf os) D a2 S.length 2 (entC S))
  (hD : ∀ t ∈ D, t ∈ l) (hn : S.length < 2 ^ 38) (hp : Hp (tabsOf os) A l) (H : ∀ A', Hp (tabsOf os) A' l → Q (.bool true) A') : Goes (XX os) 1 33 [.slice a1 S.length c1, .slice a2 S.length c2] A Q := by
 refine t33 (d := 0) ((a1, S.length, c1), (a2, S.length, c2), ()) fun n hn' => ?_
 unfold f33
 refine ev_f (by rw [eqB_self]; rfl) ?_
 refine ev_bind (ev_LL (fun μ st A' => ∃ i, μ = S.length - i ∧ i ≤ S.length ∧ st = (((i : Nat) : Int), ()) ∧ Hp (tabsOf os) A' l) (m := S.length) ⟨0, rfl, by omega, rfl, hp⟩ (by omega) ?_)
 rintro μ st A1 ⟨i, rfl, hi, rfl, hp⟩
 simp only [ltB_nat]
 refine ev_ite (fun h => ?_) fun h => ?_
 ·have h := of_decide_eq_true h
  refine ev_guard ((inB_nat i _).trans (decide_eq_true h)) ?_
  obtain ⟨b1, rfl⟩ := h1.some (hp.has hD) h
  obtain ⟨b2, rfl⟩ := h2.some (hp.has hD) h
  have e1 : Sh.ofCells (.agg [(.int .i64), .string]) (((entC S).drop (i * 2)).take 2) = some (S[i].1, BA S[i].2, ()) := by rw [entC_at S i h]; rfl
  show Ev (f33c0 (XX os n) LL _ _ b1) A1 _
  unfold f33c0
  refine ev_rec (i := i) hp hD h1 h e1 ?_
  refine ev_guard ((inB_nat i _).trans (decide_eq_true h)) ?_
  refine ev_rec (i := i) hp hD h2 h e1 ?_
  rw [ent_eql]
  refine ev_f (by simp [seq_self]) (ev_pure ⟨S.length - (i + 1), by omega, i + 1, rfl, by omega, by rw [addW_1 (by omega)], hp⟩)
 ·exact ev_pure (ev_pure (H A1 hp))
/-- Two lists of the same rows are the same. -/
theorem rowsG {a1 a2 : Option Addr} {c1 c2 : Nat} {L1 L2 : List Value} {xs : List Rw} (h1 : RowsAt (tabsOf os) D a1 xs.length 9 L1) (k1 : AllAt (RwAt (tabsOf os) D) 9 L1 xs) (h2 : RowsAt (tabsOf os) D a2 xs.length 9 L2) (k2 : AllAt (RwAt (tabsOf os) D) 9 L2 xs)
  (hD : ∀ t ∈ D, t ∈ l) (hn : xs.length < 2 ^ 38) (hs : ∀ x ∈ xs, x.ents.length < 2 ^ 38) (hp : Hp (tabsOf os) A l) (H : ∀ A', Hp (tabsOf os) A' l → Q (.bool true) A') : Goes (XX os) 2 17 [.slice a1 xs.length c1, .slice a2 xs.length c2] A Q := by
 refine t17 (d := 1) ((a1, xs.length, c1), (a2, xs.length, c2), ()) fun n hn' => ?_
 unfold f17
 refine ev_f (by rw [eqB_self]; rfl) ?_
 unfold f17c6
 refine ev_bind (ev_LL (fun μ st A' => ∃ i, μ = xs.length - i ∧ i ≤ xs.length ∧ st = (((i : Nat) : Int), ()) ∧ Hp (tabsOf os) A' l) (m := xs.length) ⟨0, rfl, by omega, rfl, hp⟩ (by omega) ?_)
 rintro μ st A1 ⟨i, rfl, hi, rfl, hp⟩
 simp only [ltB_nat]
 refine ev_ite (fun h => ?_) fun h => ?_
 ·have h := of_decide_eq_true h
  refine ev_guard ((inB_nat i _).trans (decide_eq_true h)) ?_
  obtain ⟨b1, rfl⟩ := h1.some (hp.has hD) h
  obtain ⟨b2, rfl⟩ := h2.some (hp.has hD) h
  obtain ⟨d1, e1, hc1, hsee1, hr1, he1⟩ := k1.2 i h
  obtain ⟨d2, e2, hc2, hsee2, hr2, he2⟩ := k2.2 i h
  have hsx := hs xs[i] (List.getElem_mem _)
  have o1 : Sh.ofCells (.agg [(.int .i64), (.int .i64), .bool, .slice, (.int .i64), (.int .i64), (.int .i64), (.int .i64), .slice]) ((L1.drop (i * 9)).take 9) = some (xs[i].kind, xs[i].err, xs[i].is, d1, xs[i].s1, xs[i].s2, xs[i].s3, xs[i].s4, e1, ()) := by rw [hc1]; rfl
  have o2 : Sh.ofCells (.agg [(.int .i64), (.int .i64), .bool, .slice, (.int .i64), (.int .i64), (.int .i64), (.int .i64), .slice]) ((L2.drop (i * 9)).take 9) = some (xs[i].kind, xs[i].err, xs[i].is, d2, xs[i].s1, xs[i].s2, xs[i].s3, xs[i].s4, e2, ()) := by rw [hc2]; rfl
  refine ev_rec (i := i) hp hD h1 h o1 ?_
  unfold f17c5
  refine ev_guard ((inB_nat i _).trans (decide_eq_true h)) ?_
  refine ev_rec (i := i) hp hD h2 h o2 ?_
  refine ev_new hp fun b10 A2 hp => ?_
  unfold f17c4
  refine ev_new hp fun b11 A3 hp => ?_
  refine ev_store 1 hp rfl rfl (Nat.le_of_ble_eq_true rfl) rfl fun A4 hp => ?_
  unfold f17c3
  refine ev_rec (i := i) hp (fun t ht => .tail _ (.tail _ (hD t ht))) h2 h o2 (ev_cond_t (veqv_rw xs[i] d2 e2) ?_)
  refine ev_store 0 hp rfl rfl (Nat.le_of_ble_eq_true rfl) rfl fun A5 hp => ?_
  clear o1 o2 hc1 hc2
  generalize xs[i] = x at *
  refine ev_join (fun j A' => Hp (tabsOf os) A' l ∧ j = (false, ())) ?_ fun go hgo => ?_
  ·rintro _ A6 ⟨hp, rfl⟩
   exact ev_f rfl (ev_pure ⟨xs.length - (i + 1), by omega, i + 1, rfl, by omega, by rw [addW_1 (by omega)], hp⟩)
  refine ev_load 1 hp rfl rfl rfl (Nat.le_of_ble_eq_true rfl) (x := x.kind) rfl ?_
  refine ev_load 0 hp rfl rfl rfl (Nat.le_of_ble_eq_true rfl) (x := x.kind) rfl ?_
  unfold f17c2
  refine ev_f (by rw [eqB_self]; rfl) ?_
  refine ev_load 1 hp rfl rfl rfl (Nat.le_of_ble_eq_true rfl) (x := x.err) rfl ?_
  refine ev_load 0 hp rfl rfl rfl (Nat.le_of_ble_eq_true rfl) (x := x.err) rfl ?_
  refine ev_f (by rw [eqB_self]; rfl) ?_
  refine ev_load 1 hp rfl rfl rfl (Nat.le_of_ble_eq_true rfl) (x := x.is) rfl ?_
  refine ev_load 0 hp rfl rfl rfl (Nat.le_of_ble_eq_true rfl) (x := x.is) rfl ?_
  refine ev_f (by simp) ?_
  refine ev_load 1 hp rfl rfl rfl (Nat.le_of_ble_eq_true rfl) (x := d1) rfl ?_
  unfold f17c1
  refine ev_see hp (fun t ht => .tail _ (.tail _ (hD t ht))) hsee1 ?_
  refine ev_load 0 hp rfl rfl rfl (Nat.le_of_ble_eq_true rfl) (x := d2) rfl ?_
  refine ev_see hp (fun t ht => .tail _ (.tail _ (hD t ht))) hsee2 ?_
  refine ev_f (by rw [seq_self]; rfl) ?_
  refine ev_load 1 hp rfl rfl rfl (Nat.le_of_ble_eq_true rfl) (x := (x.s1, x.s2, x.s3, x.s4, ())) rfl ?_
  refine ev_load 0 hp rfl rfl rfl (Nat.le_of_ble_eq_true rfl) (x := (x.s1, x.s2, x.s3, x.s4, ())) rfl ?_
  unfold f17c0
  rw [stat_eql]
  refine ev_f (by simp) ?_
  refine ev_load 1 hp rfl rfl rfl (Nat.le_of_ble_eq_true rfl) (x := e1) rfl ?_
  refine ev_load 0 hp rfl rfl rfl (Nat.le_of_ble_eq_true rfl) (x := e2) rfl ?_
  obtain ⟨p1, m1, z1⟩ := e1
  obtain ⟨p2, m2, z2⟩ := e2
  simp only at he1 he2 hr1 hr2
  subst he1 he2
  refine (sameG (c1 := z1) (c2 := z2) hr1 hr2 (fun t ht => .tail _ (.tail _ (hD t ht))) hsx hp fun A6 hp => ⟨true, rfl, ?_⟩).use hn'
  exact hgo _ A6 ⟨hp.tail.tail, rfl⟩
 ·exact ev_pure (ev_pure (H A1 hp))
end
end Go.Proofs.YtlcigkdflbfdgaaGreatDoor.sg
namespace Go.Proofs.YtlcigkdflbfdgaaGreatDoor.sg
set_option linter.unusedVariables false
open Go Go.Eng Go.Sh
section
variable {os : List (Nat × AObj)} {A : AW} {Q : Value → AW → Prop} {l : List Thing}
abbrev PR := (SL) × (Int) × (Int) × Unit
def prV (r : PR) : Value := .tuple ⟨[.slice r.1.1 r.1.2.1 r.1.2.2, .int .i64 r.2.1, .int .i64 r.2.2.1]⟩
/-- How a text was read. -/
inductive Res {α : Type} (T : Tabs) (f : List UInt8 → Option α) (R : Tabs → List Thing → List Value → α → Prop) (esz : Nat) (s : List UInt8) (E : List Thing) : PR → Prop where
 | long (h : 65536 < s.length) : Res T f R esz s E ((none, 0, 0), 0, 3, ())
 | ok (h : s.length ≤ 65536) (xs : List α) (a : Option Addr) (L : List Value) (he : parseV f s = .ok xs) (h1 : RowsAt T E a xs.length esz L) (h2 : AllAt (R T E) esz L xs) : Res T f R esz s E ((a, xs.length, xs.length), 0, 0, ())
 | bad (h : s.length ≤ 65536) (k : Nat) (he : parseV f s = .error k) : Res T f R esz s E ((none, 0, 0), (k : Int), 5, ())
abbrev ResR (T : Tabs) (s : List UInt8) (E : List Thing) (r : PR) : Prop := Res T rowV RwAt 9 s E r
theorem parseR (s : List UInt8) (hs : s.length < 2 ^ 36) (hr : Runes os) (hp : Hp (tabsOf os) A l) (H : ∀ A' E r, Hp (tabsOf os) A' (E ++ l) → ResR (tabsOf os) s E r → Q (prV r) A') : Goes (XX os) 11 15 [.string (BA s)] A Q :=
 parseRG s hs hr hp (fun h A' hp => H A' [] _ hp (.long h)) (fun h xs A' a L D he hp hall => H A' (_ :: D) _ hp (.ok h xs a L he (.vec (.head _) hall.1) (hall.mono fun c x k => k.mono fun t ht => .tail _ ht))) (fun h k A' he hp => H A' [] _ hp (.bad h k he))
theorem prV_prj (r : PR) : (RSh.tuple [(.cell .slice), (.cell (.int .i64)), (.cell (.int .i64))]).prj (prV r) = some r := rfl
theorem rows_small {s : List UInt8} {xs : List Rw} (hs : s.length ≤ 65536) (h : parseV rowV s = .ok xs) : ∀ x ∈ xs, Small x := fun x hx => by
 obtain ⟨one, h1, h2⟩ := (parse_all _ xs s h).2 x hx
 unfold rowV at h2
 split at h2
 ·obtain rfl := Option.some.inj h2
  exact small_read one (by omega)
 ·cases h2
end
end Go.Proofs.YtlcigkdflbfdgaaGreatDoor.sg
namespace Go.Proofs.YtlcigkdflbfdgaaGreatDoor.sg
set_option linter.unusedVariables false
open Go Go.Eng Go.Sh
/-- Parts behind others; parts that are still to be read. -/
def tl : List (List UInt8) → List UInt8
 | [] => []
 | p :: ps => 32 :: (p ++ tl ps)
def rs : List (List UInt8) → List UInt8
 | [] => []
 | p :: ps => p ++ tl ps
theorem tl_append : ∀ a b : List (List UInt8), tl (a ++ b) = tl a ++ tl b
 | [], _ => rfl
 | p :: a, b => by
  show 32 :: (p ++ tl (a ++ b)) = 32 :: (p ++ tl a) ++ tl b
  rw [tl_append a b]; simp
def Full (ps : List (List UInt8)) : Prop := ∀ p ∈ ps, p ≠ []
theorem plain_back {w : List UInt8} {ps : List (List UInt8)} (hw : (32 : UInt8) ∉ w) (hp : Full ps) : plainV (w ++ tl ps) = (w, rs ps, false) := by
 unfold plainV cutV
 cases ps with
 | nil =>
  rw [show w ++ tl [] = w by simp [tl], cutAt_of_not hw]
  rfl
 | cons p ps =>
  rw [show w ++ tl (p :: ps) = w ++ 32 :: (p ++ tl ps) from rfl, cutAt_app _ hw]
  have h : p ++ tl ps ≠ [] := fun e => hp p (.head _) (List.append_eq_nil_iff.1 e).1
  simp only [decide_eq_false h]
  rfl
theorem word_back (t : List UInt8) {ps : List (List UInt8)} (hp : Full ps) : wordV (word t ++ tl ps) = (t, rs ps, false) := by
 unfold wordV
 rw [unqG_word]
 cases ps with
 | nil => rfl
 | cons p ps =>
  have h : p ++ tl ps ≠ [] := fun e => hp p (.head _) (List.append_eq_nil_iff.1 e).1
  have hl := List.length_pos_iff.2 h
  show (if tl (p :: ps) = [] then (t, [], false) else if at' (tl (p :: ps)) 0 = 32 ∧ 1 < (tl (p :: ps)).length then (t, (tl (p :: ps)).drop 1, false) else (t, word t ++ tl (p :: ps), true)) = _
  rw [if_neg (by simp [tl]), if_pos ⟨rfl, by show 1 < (32 :: (p ++ tl ps)).length; rw [List.length_cons]; omega⟩]
  rfl
theorem number_back {n : Int} (h : -9223372036854775808 ≤ n ∧ n ≤ 9223372036854775807) {ps : List (List UInt8)} (hp : Full ps) : numberV (Lib.itoa n ++ tl ps) = (n, rs ps, false) := by
 unfold numberV
 rw [plain_back (itoa_no (by decide)) hp]
 simp only [(atoiN_itoa h).1, (atoiN_itoa h).2]
 simp
theorem word_ne (b : List UInt8) : word b ≠ [] := by unfold word; simp
theorem kinds_ok : ((List.range 22).all fun k => decide (idxV kindL (kindL.getD k []) = (k : Int)) && (decide ((kindL.getD k []) = []) == decide (k = 0)) && !(kindL.getD k []).contains 32 && !(kindL.getD k []).contains 10) = true := by kernel_rfl
theorem kind_ok {k : Int} (h : nameV k ≠ []) : (1 ≤ k ∧ k < 22) ∧ idxV kindL (nameV k) = k ∧ (32 : UInt8) ∉ nameV k ∧ (10 : UInt8) ∉ nameV k := by
 unfold nameV at h ⊢
 split at h
 ·exact absurd rfl h
 ·rename_i hk
  rw [if_neg hk]
  have h1 := List.all_eq_true.1 kinds_ok k.toNat (List.mem_range.2 (by omega))
  simp only [Bool.and_eq_true, decide_eq_true_eq, Bool.not_eq_true', List.contains_eq_mem, decide_eq_false_iff_not] at h1
  exact ⟨by omega, by rw [h1.1.1.1]; omega, h1.1.2, h1.2⟩
theorem kind_back {k : Int} (h : nameV k ≠ []) {ps : List (List UInt8)} (hp : Full ps) : kindV (nameV k ++ tl ps) = (k, rs ps, false) := by
 obtain ⟨h1, h2, h3, _⟩ := kind_ok h
 unfold kindV
 rw [plain_back h3 hp]
 simp only [h2]
 rw [decide_eq_false (by omega)]
 rfl
theorem full_nil : Full [] := fun _ h => by cases h
/-- Numbers that an int holds. -/
def Nums (e : Evt) : Prop := (-9223372036854775808 ≤ e.a ∧ e.a ≤ 9223372036854775807) ∧ (-9223372036854775808 ≤ e.b ∧ e.b ≤ 9223372036854775807)
/-- The lines of things, one behind the other; none: one of them may not be written. -/
def writeV {α : Type} (f : α → Option (List UInt8)) : List α → Option (List UInt8)
 | [] => some []
 | x :: xs => match f x with
  | none => none
  | some t => (writeV f xs).map fun r => t ++ 10 :: r
end Go.Proofs.YtlcigkdflbfdgaaGreatDoor.sg
namespace Go.Proofs.YtlcigkdflbfdgaaGreatDoor.sg
set_option linter.unusedVariables false
open Go Go.Eng Go.Sh
noncomputable def rowO (x : Rw) : Option (List UInt8) := if rlB x then some (rlV x) else none
def eparts (L : List (Int × List UInt8)) : List (List UInt8) := L.flatMap fun p => [Lib.itoa p.1, word p.2]
noncomputable def tparts (x : Rw) : List (List UInt8) := if eqB x.kind 7 then [word x.data] else if eqB x.kind 10 then (statL x).map Lib.itoa else if eqB x.kind 11 then eparts x.ents else
 if (eqB x.kind 15 || eqB x.kind 16) then [if x.is then [121, 101, 115] else [110, 111]] else []
noncomputable def partsR (x : Rw) : List (List UInt8) := if eqB x.err 0 then [111, 107] :: tparts x else [[101, 114, 114, 111, 114], Lib.itoa x.err]
theorem statT_tl : ∀ S : List Int, statT S = tl (S.map Lib.itoa)
 | [] => rfl
 | n :: S => by
  have e : statT (n :: S) = ([32] ++ Lib.itoa n) ++ statT S := by simp [statT]
  rw [e, statT_tl S]
  simp [tl]
theorem entsT_tl : ∀ L : List (Int × List UInt8), entsT L = tl (eparts L)
 | [] => rfl
 | p :: L => by
  have e : entsT (p :: L) = entT p ++ entsT L := by simp [entsT]
  have e2 : eparts (p :: L) = [Lib.itoa p.1, word p.2] ++ eparts L := by simp [eparts]
  rw [e, e2, entsT_tl L, tl_append]
  simp [tl, entT]
theorem tailV_tl (x : Rw) : tailV x = tl (tparts x) := by
 unfold tailV tparts
 split
 ·simp [tl]
 split
 ·exact statT_tl _
 split
 ·exact entsT_tl _
 split
 ·cases x.is <;> rfl
 ·rfl
theorem rlV_eq (x : Rw) : rlV x = nameV x.kind ++ tl (partsR x) := by
 unfold rlV partsR
 split
 ·rw [tailV_tl]
  simp [tl]
 ·simp [tl]
theorem eparts_full : ∀ L : List (Int × List UInt8), Full (eparts L) := fun L p hp => by
 unfold eparts at hp
 obtain ⟨q, _, hq⟩ := List.mem_flatMap.1 hp
 simp only [List.mem_cons, List.not_mem_nil, or_false] at hq
 rcases hq with rfl | rfl
 ·exact itoa_ne _
 ·exact word_ne _
theorem map_full (S : List Int) : Full (S.map Lib.itoa) := fun p hp => by
 obtain ⟨n, _, rfl⟩ := List.mem_map.1 hp
 exact itoa_ne _
theorem tparts_full (x : Rw) : Full (tparts x) := by
 unfold tparts
 split
 ·intro p hp; rw [List.mem_singleton.1 hp]; exact word_ne _
 split
 ·exact map_full _
 split
 ·exact eparts_full _
 split
 ·intro p hp
  rw [List.mem_singleton.1 hp]
  cases x.is <;> simp
 ·exact full_nil
theorem partsR_full (x : Rw) : Full (partsR x) := by
 unfold partsR
 split
 ·intro p hp
  rcases List.mem_cons.1 hp with rfl | hp
  ·simp
  ·exact tparts_full x p hp
 ·intro p hp
  simp only [List.mem_cons, List.not_mem_nil, or_false] at hp
  rcases hp with rfl | rfl
  ·simp
  ·exact itoa_ne _
theorem rs_le (ps : List (List UInt8)) : (rs ps).length ≤ (tl ps).length := by
 cases ps with
 | nil => exact Nat.le_refl _
 | cons p ps => simp [rs, tl]
theorem ents_back : ∀ (L : List (Int × List UInt8)) (k : Nat), (∀ p ∈ L, -9223372036854775808 ≤ p.1 ∧ p.1 ≤ 9223372036854775807) → (rs (eparts L)).length < k → entsV k (rs (eparts L)) false = (L, [], false)
 | [], k, _, h => by
  obtain ⟨k, rfl⟩ : ∃ j, k = j + 1 := ⟨k - 1, by omega⟩
  rfl
 | p :: L, k, hL, h => by
  obtain ⟨k, rfl⟩ : ∃ j, k = j + 1 := ⟨k - 1, by omega⟩
  have e2 : eparts (p :: L) = Lib.itoa p.1 :: word p.2 :: eparts L := by simp [eparts]
  have f := eparts_full L
  have f2 : Full (word p.2 :: eparts L) := fun q hq => by
   rcases List.mem_cons.1 hq with rfl | hq
   ·exact word_ne _
   ·exact f q hq
  rw [e2] at h ⊢
  have e3 : rs (Lib.itoa p.1 :: word p.2 :: eparts L) = Lib.itoa p.1 ++ tl (word p.2 :: eparts L) := rfl
  have e4 : rs (word p.2 :: eparts L) = word p.2 ++ tl (eparts L) := rfl
  have hne : rs (Lib.itoa p.1 :: word p.2 :: eparts L) ≠ [] := fun e => itoa_ne p.1 (List.append_eq_nil_iff.1 e).1
  have hl : (rs (eparts L)).length < k := by
   have := rs_le (eparts L)
   have h1 := List.length_pos_iff.2 (itoa_ne p.1)
   have h2 : (rs (Lib.itoa p.1 :: word p.2 :: eparts L)).length = (Lib.itoa p.1).length + (1 + ((word p.2).length + (tl (eparts L)).length)) := by
    simp [rs, tl]; omega
   omega
  have ih := ents_back L k (fun q hq => hL q (.tail _ hq)) hl
  rw [entsV, if_neg (by simp [hne])]
  rw [e3, number_back (hL p (.head _)) f2]
  simp only
  rw [e4, word_back p.2 f]
  simp only [Bool.or_self]
  rw [ih]
/-- A row whose numbers ints hold. -/
structure NumsR (x : Rw) : Prop where
 err : -9223372036854775808 ≤ x.err ∧ x.err ≤ 9223372036854775807
 stat : ∀ n ∈ statL x, -9223372036854775808 ≤ n ∧ n ≤ 9223372036854775807
 ino : ∀ p ∈ x.ents, -9223372036854775808 ≤ p.1 ∧ p.1 ≤ 9223372036854775807
theorem rlB_no {x : Rw} (h : rlB x = true) : nameV x.kind ≠ [] ∧ ((x.err = 0 ∧ x.kind = 7) ∨ x.data = []) ∧ ((x.err = 0 ∧ x.kind = 10) ∨ (x.s1 = 0 ∧ x.s2 = 0 ∧ x.s3 = 0 ∧ x.s4 = 0)) ∧ ((x.err = 0 ∧ x.kind = 11) ∨ x.ents = []) ∧ (x.is = false ∨ (x.err = 0 ∧ (x.kind = 15 ∨ x.kind = 16))) := by
 unfold rlB bareD bareS bareE zeroS at h
 simp only [Bool.and_eq_true, Bool.or_eq_true, eqB_eq, beq_iff_eq, Bool.not_eq_true', decide_eq_false_iff_not] at h
 obtain ⟨⟨h0, h1, h2, h3⟩, h4⟩ := h
 refine ⟨h0, h1.imp id fun e => List.eq_nil_of_length_eq_zero (by omega), h2, h3.imp id fun e => List.eq_nil_of_length_eq_zero (by omega), h4⟩
theorem readR_line {x : Rw} (hn : NumsR x) (h : rlB x = true) : readR (rlV x) = (x, [], false) := by
 obtain ⟨h0, h1, h2, h3, h4⟩ := rlB_no h
 have hk : kindV (rlV x) = (x.kind, rs (partsR x), false) := by
  rw [rlV_eq]; exact kind_back h0 (partsR_full x)
 unfold readR
 rw [hk]
 simp only
 have hst := hn.stat
 have hino := hn.ino
 have herr := hn.err
 obtain ⟨kind, err, is, data, s1, s2, s3, s4, ents⟩ := x
 simp only at h0 h1 h2 h3 h4 hino herr
 unfold partsR
 simp only
 by_cases he : err = 0
 ·subst he
  rw [if_pos (by simp [eqB_eq])]
  have hp := plain_back (w := [111, 107]) (ps := tparts ⟨kind, 0, is, data, s1, s2, s3, s4, ents⟩) (by decide) (tparts_full _)
  rw [show rs ([111, 107] :: tparts ⟨kind, 0, is, data, s1, s2, s3, s4, ents⟩) = [111, 107] ++ tl (tparts ⟨kind, 0, is, data, s1, s2, s3, s4, ents⟩) from rfl, hp]
  simp only [Bool.or_self]
  unfold readR2
  rw [if_neg (by decide), if_neg (by simp)]
  unfold tparts
  simp only
  by_cases k7 : kind = 7
  ·subst k7
   have e2 : s1 = 0 ∧ s2 = 0 ∧ s3 = 0 ∧ s4 = 0 := h2.resolve_left (by omega)
   have e3 : ents = [] := h3.resolve_left (by omega)
   have e4 : is = false := h4.resolve_right (by omega)
   obtain ⟨rfl, rfl, rfl, rfl⟩ := e2
   subst e3 e4
   simp only [eqB_self, if_true]
   have hw := word_back data full_nil
   rw [show rs [word data] = word data ++ tl [] from rfl, hw]
   rfl
  have e7 : eqB kind 7 = false := by simp [eqB_eq, k7]
  simp only [e7, Bool.false_eq_true, if_false]
  have e1 : data = [] := h1.resolve_left (by omega)
  subst e1
  by_cases k10 : kind = 10
  ·subst k10
   have e3 : ents = [] := h3.resolve_left (by omega)
   have e4 : is = false := h4.resolve_right (by omega)
   subst e3 e4
   simp only [eqB_self, if_true]
   have r1 := hst s1 (by simp [statL])
   have r2 := hst s2 (by simp [statL])
   have r3 := hst s3 (by simp [statL])
   have r4 := hst s4 (by simp [statL])
   have q1 := number_back r1 (map_full [s2, s3, s4])
   have q2 := number_back r2 (map_full [s3, s4])
   have q3 := number_back r3 (map_full [s4])
   have q4 := number_back r4 full_nil
   have z1 : rs ((statL ⟨10, 0, false, [], s1, s2, s3, s4, []⟩).map Lib.itoa) = Lib.itoa s1 ++ tl ([s2, s3, s4].map Lib.itoa) := rfl
   have z2 : rs ([s2, s3, s4].map Lib.itoa) = Lib.itoa s2 ++ tl ([s3, s4].map Lib.itoa) := rfl
   have z3 : rs ([s3, s4].map Lib.itoa) = Lib.itoa s3 ++ tl ([s4].map Lib.itoa) := rfl
   have z4 : rs ([s4].map Lib.itoa) = Lib.itoa s4 ++ tl [] := rfl
   rw [z1, q1]
   simp only [z2, q2, z3, q3, z4, q4]
   rfl
  have e10 : eqB kind 10 = false := by simp [eqB_eq, k10]
  simp only [e10, Bool.false_eq_true, if_false]
  have e2 : s1 = 0 ∧ s2 = 0 ∧ s3 = 0 ∧ s4 = 0 := h2.resolve_left (by omega)
  obtain ⟨rfl, rfl, rfl, rfl⟩ := e2
  by_cases k11 : kind = 11
  ·subst k11
   have e4 : is = false := h4.resolve_right (by omega)
   subst e4
   simp only [eqB_self, if_true]
   rw [ents_back ents _ hino (Nat.lt_succ_self _)]
   rfl
  have e11 : eqB kind 11 = false := by simp [eqB_eq, k11]
  simp only [e11, Bool.false_eq_true, if_false]
  have e3 : ents = [] := h3.resolve_left (by omega)
  subst e3
  by_cases k15 : kind = 15 ∨ kind = 16
  ·have hb : (eqB kind 15 || eqB kind 16) = true := by
    rcases k15 with rfl | rfl <;> simp [eqB_eq]
   simp only [hb, if_true]
   cases is with
   | true =>
    have hq := plain_back (w := [121, 101, 115]) (ps := []) (by decide) full_nil
    rw [if_pos rfl, show rs [([121, 101, 115] : List UInt8)] = [121, 101, 115] ++ tl [] from rfl, hq]
    rfl
   | false =>
    have hq := plain_back (w := [110, 111]) (ps := []) (by decide) full_nil
    rw [if_neg (by decide), show rs [([110, 111] : List UInt8)] = [110, 111] ++ tl [] from rfl, hq]
    rfl
  ·have hb : ¬ (eqB kind 15 || eqB kind 16) = true := by
    simp only [eqB_eq, Bool.or_eq_true, beq_iff_eq]
    exact k15
   have e4 : is = false := h4.resolve_right fun e => k15 e.2
   subst e4
   simp only [hb]
   rfl
 ·rw [if_neg (by simp [eqB_eq, he])]
  have e1 : data = [] := h1.resolve_left fun e => he e.1
  have e2 : s1 = 0 ∧ s2 = 0 ∧ s3 = 0 ∧ s4 = 0 := h2.resolve_left fun e => he e.1
  have e3 : ents = [] := h3.resolve_left fun e => he e.1
  have e4 : is = false := h4.resolve_right fun e => he e.1
  obtain ⟨rfl, rfl, rfl, rfl⟩ := e2
  subst e1 e3 e4
  have f : Full [Lib.itoa err] := fun p hp => by rw [List.mem_singleton.1 hp]; exact itoa_ne _
  have hp := plain_back (w := [101, 114, 114, 111, 114]) (ps := [Lib.itoa err]) (by decide) f
  rw [show rs [([101, 114, 114, 111, 114] : List UInt8), Lib.itoa err] = [101, 114, 114, 111, 114] ++ tl [Lib.itoa err] from rfl, hp]
  simp only [Bool.or_self]
  unfold readR2
  rw [if_pos rfl]
  have hq := number_back herr full_nil
  rw [show rs [Lib.itoa err] = Lib.itoa err ++ tl [] from rfl, hq]
  rfl
theorem row_line {x : Rw} (hn : NumsR x) {t : List UInt8} (h : rowO x = some t) : rowV t = some x := by
 unfold rowO at h
 split at h
 ·rename_i hb
  obtain rfl := Option.some.inj h
  unfold rowV rowB
  rw [readR_line hn hb]
  simp [hb]
 ·cases h
theorem line_row {s : List UInt8} {x : Rw} (h : rowV s = some x) : rowO x = some s := by
 unfold rowV at h
 split at h
 ·rename_i hb
  obtain rfl := Option.some.inj h
  unfold rowB at hb
  simp only [Bool.and_eq_true, decide_eq_true_eq] at hb
  obtain ⟨_, _, h3, h4⟩ := hb
  unfold rowO
  rw [if_pos h3, h4]
 ·cases h
end Go.Proofs.YtlcigkdflbfdgaaGreatDoor.sg
namespace Go.Proofs.YtlcigkdflbfdgaaGreatDoor.sg
set_option linter.unusedVariables false
open Go Go.Eng Go.Sh
section
variable {α : Type} (f : α → List UInt8) (o : α → Option (List UInt8))
/-- All the lines, whether they may be written or not. -/
def catV (xs : List α) : List UInt8 := xs.flatMap fun x => f x ++ [10]
theorem catV_next {S : List α} {i : Nat} (h : i < S.length) : catV f (S.take (i + 1)) = catV f (S.take i) ++ (f (S[i]'h) ++ [10]) := by
 unfold catV
 rw [List.take_add_one, List.getElem?_eq_getElem h, Option.toList_some, List.flatMap_append, List.flatMap_singleton]
theorem catV_le (S : List α) (i : Nat) : (catV f (S.take i)).length ≤ (catV f S).length := by
 conv => rhs; rw [← List.take_append_drop i S]
 unfold catV
 rw [List.flatMap_append, List.length_append]
 omega
theorem write_all : ∀ xs : List α, (∀ x ∈ xs, o x = some (f x)) → writeV o xs = some (catV f xs)
 | [], _ => rfl
 | x :: xs, h => by
  rw [writeV, h x (.head _)]
  simp only [write_all xs fun y hy => h y (.tail _ hy), Option.map_some]
  simp [catV]
theorem write_none : ∀ {xs : List α} {x : α}, x ∈ xs → o x = none → writeV o xs = none
 | y :: xs, x, hx, h => by
  rw [writeV]
  cases hy : o y with
  | none => rfl
  | some t =>
   rcases List.mem_cons.1 hx with rfl | hx
   ·rw [h] at hy; cases hy
   ·simp only [write_none hx h]
    rfl
def textR (xs : List α) : List UInt8 × Int := match writeV o xs with
 | none => ([], 1)
 | some t => if 65536 < t.length then ([], 3) else (t, 0)
end
section
variable {os : List (Nat × AObj)} {A : AW} {Q : Value → AW → Prop} {l D : List Thing}
theorem cFW (args : List Value) (I : Interp) (ρ : Type) (K : Value → M ρ) : callF CC I 28 args K = M.callS (.tuple [(.cell .string), (.cell .bool)]) (I.call (.call 28 args)) fun x => K ((RSh.tuple [(.cell .string), (.cell .bool)]).inj x) := by kernel_rfl
/-- An event of bounded length, its numbers int64's. -/
structure SmallE (x : Evt) : Prop where
 p : x.p.length < 2 ^ 36
 q : x.q.length < 2 ^ 36
 data : x.data.length < 2 ^ 36
 nums : Nums x
set_option maxRecDepth 20000 in
theorem writtenRG {a : Option Addr} {c : Nat} {L : List Value} {xs : List Rw} (hro : RowsAt (tabsOf os) D a xs.length 9 L) (hall : AllAt (RwAt (tabsOf os) D) 9 L xs) (hD : ∀ t ∈ D, t ∈ l) (hf : ∀ x ∈ xs, Small x) (hn : xs.length < 2 ^ 38) (hW : (catV rlV xs).length < 2 ^ 38) (hr : Runes os) (hp : Hp (tabsOf os) A l)
  (H : ∀ A', Hp (tabsOf os) A' l → Q (.tuple ⟨[.string (BA (textR rowO xs).1), .int .i64 (textR rowO xs).2]⟩) A') : Goes (XX os) 8 27 [.slice a xs.length c, .func (.func 28) ⟨[]⟩ ⟨[]⟩] A Q := by
 refine t27 (d := 7) ((a, xs.length, c), .func (.func 28) ⟨[]⟩ ⟨[]⟩, ()) fun n hn' => ?_
 unfold f27
 refine ev_new hp fun b A1 hp => ?_
 have hp := (hp.vec0 5 1 false).front 1 rfl
 unfold f27c3
 refine ev_bind (ev_LL (fun μ st A' => ∃ i p a', μ = xs.length - i ∧ i ≤ xs.length ∧ st = (((i : Nat) : Int), ()) ∧ Hp (tabsOf os) A' (bldr b p a' (catV rlV (xs.take i)) l) ∧ (p = none ∨ p = some ⟨b, 0, none⟩) ∧ (a' = none ∨ 1 ≤ (catV rlV (xs.take i)).length) ∧ ∀ x ∈ xs.take i, rowO x = some (rlV x)) (m := xs.length)
  ⟨0, none, none, rfl, by omega, rfl, hp, .inl rfl, .inl rfl, by simp⟩ (by omega) ?_)
 rintro μ st A2 ⟨i, p, a', rfl, hi, rfl, hp, hpp, ha', hok⟩
 simp only [ltB_nat]
 refine ev_ite (fun h => ?_) fun h => ?_
 ·have h := of_decide_eq_true h
  unfold f27c2
  refine ev_guard ((inB_nat i _).trans (decide_eq_true h)) ?_
  obtain ⟨b1, rfl⟩ := hro.some (hp.has fun t ht => .tail _ (.tail _ (hD t ht))) h
  obtain ⟨d, e, hc, hsee, hre, hee⟩ := hall.2 i h
  have hx := hf xs[i] (List.getElem_mem _)
  have hle := catV_le rlV xs (i + 1)
  rw [catV_next rlV h, List.length_append, List.length_append] at hle
  have hnx := catV_next rlV h
  have hmem : xs[i] ∈ xs := List.getElem_mem _
  have htk : xs.take (i + 1) = xs.take i ++ [xs[i]] := by rw [List.take_add_one, List.getElem?_eq_getElem h]; rfl
  refine ev_rec (i := i) hp (fun t ht => .tail _ (.tail _ (hD t ht))) hro h (x := (xs[i].kind, xs[i].err, xs[i].is, d, xs[i].s1, xs[i].s2, xs[i].s3, xs[i].s4, e, ())) (by rw [hc]; rfl) ?_
  refine ev_new hp fun b6 A3 hp => ?_
  unfold f27c1
  refine ev_store 0 hp rfl rfl (Nat.le_of_ble_eq_true rfl) rfl fun A4 hp => ?_
  refine ev_load 0 hp rfl rfl rfl (Nat.le_of_ble_eq_true rfl) (x := (xs[i].kind, xs[i].err, xs[i].is, d, xs[i].s1, xs[i].s2, xs[i].s3, xs[i].s4, e, ())) rfl ?_
  unfold f27c0
  have hp2 := hp.tail
  simp only [callV, List.nil_append, List.append_nil]
  rw [cFW]
  generalize xs[i] = x at *
  refine (rowLineG x d e hsee hre hee (fun t ht => .tail _ (.tail _ (hD t ht))) hr hx hp2 fun A5 hp => ⟨(BA (rlV x), rlB x, ()), rfl, ?_⟩).use hn'
  refine ev_need (x := (BA (rlV x), rlB x, ())) rfl ?_
  refine ev_ite (fun hl => ?_) fun hl => ?_
  ·have hl : rlB x = false := by simpa using hl
   refine ev_pure (ev_pure ?_)
   have : textR rowO xs = ([], 1) := by unfold textR; rw [write_none rowO hmem (by unfold rowO; rw [hl]; rfl)]
   rw [this] at H
   exact H A5 hp.tail.tail
  ·have hl : rlB x = true := by simpa using hl
   have hlo : rowO x = some (rlV x) := by unfold rowO; rw [hl]; rfl
   rw [show st13 = BA [10] from rfl]
   have h1 : [(10 : UInt8)].length = 1 := rfl
   refine ev_guard (Nat.ble_eq_true_of_le (by show (rlV x).length + 1 ≤ _; omega)) ?_
   simp only [BA_append]
   refine ((writeStringG (rlV x ++ [10]) hp hpp (by rw [List.length_append]; omega) fun A6 a6 hp => ⟨(((rlV x ++ [10]).length : Int), .nilIface, ()), rfl, ?_⟩).mono (show 2 ≤ 7 by decide)).use hn'
   refine ev_pure ⟨xs.length - (i + 1), by omega, i + 1, _, a6, rfl, by omega, by rw [addW_1 (by omega)], by rw [hnx]; exact hp, .inr rfl, .inr (by rw [hnx]; simp; omega), fun y hy => ?_⟩
   rw [htk] at hy
   rcases List.mem_append.1 hy with hy | hy
   ·exact hok y hy
   ·rw [List.mem_singleton.1 hy]; exact hlo
 ·have h := of_decide_eq_false h
  rw [List.take_of_length_le (by omega)] at hp ha' hok
  refine ev_pure ?_
  simp only [Round, M.sum]
  have hw := write_all rlV rowO xs hok
  refine ((lenG hp fun A3 hp => ⟨_, rfl, ?_⟩).mono (show 1 ≤ 7 by decide)).use hn'
  rw [ltB_lit']
  refine ev_ite (fun h2 => ?_) fun h2 => ?_
  ·have h2 := of_decide_eq_true h2
   have : textR rowO xs = ([], 3) := by unfold textR; rw [hw]; exact if_pos h2
   rw [this] at H
   exact ev_pure (H A3 hp.tail.tail)
  ·have h2 := of_decide_eq_false h2
   have : textR rowO xs = (catV rlV xs, 0) := by unfold textR; rw [hw]; exact if_neg h2
   rw [this] at H
   exact ((stringG hp (by omega) ha' fun A4 hp => ⟨_, rfl, ev_pure (H A4 hp)⟩).mono (show 1 ≤ 7 by decide)).use hn'
theorem rowsTextG {a : Option Addr} {c : Nat} {L : List Value} {xs : List Rw} (hro : RowsAt (tabsOf os) D a xs.length 9 L) (hall : AllAt (RwAt (tabsOf os) D) 9 L xs) (hD : ∀ t ∈ D, t ∈ l) (hf : ∀ x ∈ xs, Small x) (hn : xs.length < 2 ^ 38) (hW : (catV rlV xs).length < 2 ^ 38) (hr : Runes os) (hp : Hp (tabsOf os) A l)
  (H : ∀ A', Hp (tabsOf os) A' l → Q (.tuple ⟨[.string (BA (textR rowO xs).1), .int .i64 (textR rowO xs).2]⟩) A') : Goes (XX os) 9 12 [.slice a xs.length c] A Q := by
 refine t12 (d := 8) ((a, xs.length, c), ()) fun n hn' => ?_
 simp only [f12]
 exact (writtenRG hro hall hD hf hn hW hr hp fun A1 hp => ⟨(BA (textR rowO xs).1, (textR rowO xs).2, ()), rfl, ev_pure (H A1 hp)⟩).use hn'
end
end Go.Proofs.YtlcigkdflbfdgaaGreatDoor.sg
