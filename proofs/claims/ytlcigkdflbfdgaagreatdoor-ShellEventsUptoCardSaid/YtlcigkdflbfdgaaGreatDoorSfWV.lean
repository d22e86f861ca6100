/-
  Walks: WP, WQ, WT, WU, WV.
-/
import Derived.Test.YtlcigkdflbfdgaaGreatDoorSfWO
import Derived.Test.YtlcigkdflbfdgaaGreatDoorPlain
namespace Go.Proofs.YtlcigkdflbfdgaaGreatDoor.sf
set_option linter.unusedVariables false
open Go Go.Eng Go.Sh
section
variable {os : List (Nat × AObj)} {A : AW} {Q : Value → AW → Prop} {l D : List Thing}
theorem take_run (L c : List Value) (i k : Nat) (h : (L.drop (i * k)).take k = c) : L.take ((i + 1) * k) = L.take (i * k) ++ c := by
  rw [← h, Nat.add_mul, Nat.one_mul, List.take_add]
theorem theirsG {a : Option Addr} {c : Nat} {L : List Value} {xs : List Evt} (hro : RowsAt (tabsOf os) D a xs.length 6 L) (hall : AllAt (EvtAt (tabsOf os) D) 6 L xs) (hD : ∀ t ∈ D, t ∈ l) (hn : xs.length < 2 ^ 38) (hp : Hp (tabsOf os) A l)
    (H : ∀ A' a', Hp (tabsOf os) A' (.vec 55 6 false a' xs.length xs.length L :: l) → Q (.slice a' xs.length xs.length) A') : Goes (XX os) 1 7 [.slice a xs.length c] A Q := by
  refine t7 (d := 0) ((a, xs.length, c), ()) fun n hn' => ?_
  unfold f7
  have hp := hp.vec0 55 6 false
  refine ev_bind (ev_LL (fun μ st A' => ∃ i a', μ = xs.length - i ∧ i ≤ xs.length ∧ st = ((a', i, i), ((i : Nat) : Int), ()) ∧ Hp (tabsOf os) A' (.vec 55 6 false a' i i (L.take (i * 6)) :: l)) (m := xs.length) ⟨0, none, rfl, by omega, rfl, by simpa using hp⟩ (by omega) ?_)
  rintro μ st A1 ⟨i, a', rfl, hi, rfl, hp⟩
  simp only [ltB_nat, inB_nat]
  refine ev_ite (fun h => ?_) fun h => ?_
  · have h := of_decide_eq_true h
    refine ev_guard (decide_eq_true h) ?_
    obtain ⟨b, rfl⟩ := hro.some (hp.has fun t ht => .tail _ (hD t ht)) h
    obtain ⟨d, hc, hsee⟩ := hall.2 i h
    show Ev (f7c0 (XX os n) LL ((a', i, i), ((i : Nat) : Int), ()) b) A1 _
    unfold f7c0
    refine ev_rec (i := i) hp (fun t ht => .tail _ (hD t ht)) hro h (x := (xs[i].kind, BA xs[i].p, BA xs[i].q, xs[i].a, xs[i].b, d, ())) (by rw [hc]; rfl) ?_
    refine ev_new hp fun b5 A2 hp => ?_
    refine ev_append_row 1 0 hp rfl rfl (m := 1) rfl (by decide) (by decide) (by show (2 * (i + 1) + 200) * 80 ≤ _; omega) rfl fun A3 a9 hp => ?_
    refine ev_pure ⟨xs.length - (i + 1), by omega, i + 1, a9, rfl, by omega, by rw [addW_1 (by omega)], ?_⟩
    rw [take_run L _ i 6 hc]
    exact hp.tail
  · have h := of_decide_eq_false h
    obtain rfl : i = xs.length := by omega
    rw [List.take_of_length_le (by rw [hall.1]; exact Nat.le_refl _)] at hp
    exact ev_pure (ev_pure (H A1 a' hp))
theorem veqv_evt (x : Evt) (d : SL) : veqv (.agg ⟨evtC x d⟩) (.agg ⟨evtC x d⟩) = true := by
  simp [veqv, veqs, veq1, BA_seq]
theorem eqB_self (a : Int) : eqB a a = true := by rw [eqB_eq]; simp
theorem seq_self (s : List UInt8) : seq (BA s) (BA s) = true := by rw [BA_seq]; simp
/-- Two lists of the same events are the same. -/
theorem eventsG {a1 a2 : Option Addr} {c1 c2 : Nat} {L1 L2 : List Value} {xs : List Evt} (h1 : RowsAt (tabsOf os) D a1 xs.length 6 L1) (k1 : AllAt (EvtAt (tabsOf os) D) 6 L1 xs) (h2 : RowsAt (tabsOf os) D a2 xs.length 6 L2) (k2 : AllAt (EvtAt (tabsOf os) D) 6 L2 xs)
    (hD : ∀ t ∈ D, t ∈ l) (hn : xs.length < 2 ^ 38) (hp : Hp (tabsOf os) A l) (H : ∀ A', Hp (tabsOf os) A' l → Q (.bool true) A') : Goes (XX os) 1 10 [.slice a1 xs.length c1, .slice a2 xs.length c2] A Q := by
  refine t10 (d := 0) ((a1, xs.length, c1), (a2, xs.length, c2), ()) fun n hn' => ?_
  unfold f10
  refine ev_f (by rw [eqB_self]; rfl) ?_
  refine ev_bind (ev_LL (fun μ st A' => ∃ i, μ = xs.length - i ∧ i ≤ xs.length ∧ st = (((i : Nat) : Int), ()) ∧ Hp (tabsOf os) A' l) (m := xs.length) ⟨0, rfl, by omega, rfl, hp⟩ (by omega) ?_)
  rintro μ st A1 ⟨i, rfl, hi, rfl, hp⟩
  simp only [ltB_nat]
  refine ev_ite (fun h => ?_) fun h => ?_
  · have h := of_decide_eq_true h
    unfold f10c4
    refine ev_guard ((inB_nat i _).trans (decide_eq_true h)) ?_
    obtain ⟨b1, rfl⟩ := h1.some (hp.has hD) h
    obtain ⟨b2, rfl⟩ := h2.some (hp.has hD) h
    obtain ⟨d1, hc1, hsee1⟩ := k1.2 i h
    obtain ⟨d2, hc2, hsee2⟩ := k2.2 i h
    have e2 : Sh.ofCells (.agg [(.int .i64), .string, .string, (.int .i64), (.int .i64), .slice]) ((L2.drop (i * 6)).take 6) = some (xs[i].kind, BA xs[i].p, BA xs[i].q, xs[i].a, xs[i].b, d2, ()) := by rw [hc2]; rfl
    refine ev_rec (i := i) hp hD h1 h (x := (xs[i].kind, BA xs[i].p, BA xs[i].q, xs[i].a, xs[i].b, d1, ())) (by rw [hc1]; rfl) ?_
    refine ev_guard ((inB_nat i _).trans (decide_eq_true h)) ?_
    refine ev_rec (i := i) hp hD h2 h e2 ?_
    unfold f10c3
    refine ev_new hp fun b10 A2 hp => ?_
    refine ev_new hp fun b11 A3 hp => ?_
    refine ev_store 1 hp rfl rfl (Nat.le_of_ble_eq_true rfl) rfl fun A4 hp => ?_
    unfold f10c2
    refine ev_rec (i := i) hp (fun t ht => .tail _ (.tail _ (hD t ht))) h2 h e2 (ev_cond_t (veqv_evt xs[i] d2) ?_)
    refine ev_store 0 hp rfl rfl (Nat.le_of_ble_eq_true rfl) rfl fun A5 hp => ?_
    generalize xs[i] = x at *
    refine ev_join (fun j A' => Hp (tabsOf os) A' l ∧ j = (false, ())) ?_ fun go hgo => ?_
    · rintro _ A6 ⟨hp, rfl⟩
      exact ev_f rfl (ev_pure ⟨xs.length - (i + 1), by omega, i + 1, rfl, by omega, by rw [addW_1 (by omega)], hp⟩)
    refine ev_load 1 hp rfl rfl rfl (Nat.le_of_ble_eq_true rfl) (x := x.kind) rfl ?_
    refine ev_load 0 hp rfl rfl rfl (Nat.le_of_ble_eq_true rfl) (x := x.kind) rfl ?_
    refine ev_f (by rw [eqB_self]; rfl) ?_
    unfold f10c1
    refine ev_load 1 hp rfl rfl rfl (Nat.le_of_ble_eq_true rfl) (x := BA x.p) rfl ?_
    refine ev_load 0 hp rfl rfl rfl (Nat.le_of_ble_eq_true rfl) (x := BA x.p) rfl ?_
    refine ev_f (by rw [seq_self]; rfl) ?_
    refine ev_load 1 hp rfl rfl rfl (Nat.le_of_ble_eq_true rfl) (x := BA x.q) rfl ?_
    refine ev_load 0 hp rfl rfl rfl (Nat.le_of_ble_eq_true rfl) (x := BA x.q) rfl ?_
    refine ev_f (by rw [seq_self]; rfl) ?_
    refine ev_load 1 hp rfl rfl rfl (Nat.le_of_ble_eq_true rfl) (x := x.a) rfl ?_
    unfold f10c0
    refine ev_load 0 hp rfl rfl rfl (Nat.le_of_ble_eq_true rfl) (x := x.a) rfl ?_
    refine ev_f (by rw [eqB_self]; rfl) ?_
    refine ev_load 1 hp rfl rfl rfl (Nat.le_of_ble_eq_true rfl) (x := x.b) rfl ?_
    refine ev_load 0 hp rfl rfl rfl (Nat.le_of_ble_eq_true rfl) (x := x.b) rfl ?_
    refine ev_f (by rw [eqB_self]; rfl) ?_
    refine ev_load 1 hp rfl rfl rfl (Nat.le_of_ble_eq_true rfl) (x := d1) rfl ?_
    refine ev_see hp (fun t ht => .tail _ (.tail _ (hD t ht))) hsee1 ?_
    refine ev_load 0 hp rfl rfl rfl (Nat.le_of_ble_eq_true rfl) (x := d2) rfl ?_
    refine ev_see hp (fun t ht => .tail _ (.tail _ (hD t ht))) hsee2 ?_
    exact hgo _ A5 ⟨hp.tail.tail, by rw [seq_self]; rfl⟩
  · exact ev_pure (ev_pure (H A1 hp))
end
end Go.Proofs.YtlcigkdflbfdgaaGreatDoor.sf
namespace Go.Proofs.YtlcigkdflbfdgaaGreatDoor.sf
set_option linter.unusedVariables false
open Go Go.Eng Go.Sh
section
variable {os : List (Nat × AObj)} {A : AW} {Q : Value → AW → Prop} {l : List Thing}
abbrev PR := (SL) × (Int) × (Int) × Unit
def prV (r : PR) : Value := .tuple ⟨[.slice r.1.1 r.1.2.1 r.1.2.2, .int .i64 r.2.1, .int .i64 r.2.2.1]⟩
/-- How a text was read. -/
inductive Res {α : Type} (T : Tabs) (f : List UInt8 → Option α) (R : Tabs → List Thing → List Value → α → Prop) (esz : Nat) (s : List UInt8) (E : List Thing) : PR → Prop where
  | long (h : 65536 < s.length) : Res T f R esz s E ((none, 0, 0), 0, 3, ())
  | ok (h : s.length ≤ 65536) (xs : List α) (a : Option Addr) (L : List Value) (he : parseV f s = .ok xs) (h1 : RowsAt T E a xs.length esz L) (h2 : AllAt (R T E) esz L xs) : Res T f R esz s E ((a, xs.length, xs.length), 0, 0, ())
  | bad (h : s.length ≤ 65536) (k : Nat) (he : parseV f s = .error k) : Res T f R esz s E ((none, 0, 0), (k : Int), 5, ())
abbrev ResE (T : Tabs) (s : List UInt8) (E : List Thing) (r : PR) : Prop := Res T eventV EvtAt 6 s E r
theorem parseE (s : List UInt8) (hs : s.length < 2 ^ 36) (hr : Runes os) (hp : Hp (tabsOf os) A l) (H : ∀ A' E r, Hp (tabsOf os) A' (E ++ l) → ResE (tabsOf os) s E r → Q (prV r) A') : Goes (XX os) 12 8 [.string (BA s)] A Q :=
  parseG s hs hr hp (fun h A' hp => H A' [] _ hp (.long h)) (fun h xs A' a L D he hp hall => H A' (_ :: D) _ hp (.ok h xs a L he (.vec (.head _) hall.1) (hall.mono fun c x k => k.mono fun t ht => .tail _ ht))) (fun h k A' he hp => H A' [] _ hp (.bad h k he))
theorem prV_prj (r : PR) : (RSh.tuple [(.cell .slice), (.cell (.int .i64)), (.cell (.int .i64))]).prj (prV r) = some r := rfl
end
end Go.Proofs.YtlcigkdflbfdgaaGreatDoor.sf
namespace Go.Proofs.YtlcigkdflbfdgaaGreatDoor.sf
set_option linter.unusedVariables false
open Go Go.Eng Go.Sh
/-- Parts behind others; parts that are still to be read. -/
def tl : List (List UInt8) → List UInt8
  | [] => []
  | p :: ps => 32 :: (p ++ tl ps)
def rs : List (List UInt8) → List UInt8
  | [] => []
  | p :: ps => p ++ tl ps
theorem tl_append : ∀ a b : List (List UInt8), tl (a ++ b) = tl a ++ tl b
  | [], _ => rfl
  | p :: a, b => by
    show 32 :: (p ++ tl (a ++ b)) = 32 :: (p ++ tl a) ++ tl b
    rw [tl_append a b]; simp
def Full (ps : List (List UInt8)) : Prop := ∀ p ∈ ps, p ≠ []
theorem Full.tail {p : List UInt8} {ps : List (List UInt8)} (h : Full (p :: ps)) : Full ps := fun q hq => h q (.tail _ hq)
theorem plain_back {w : List UInt8} {ps : List (List UInt8)} (hw : (32 : UInt8) ∉ w) (hp : Full ps) : plainV (w ++ tl ps) = (w, rs ps, false) := by
  unfold plainV cutV
  cases ps with
  | nil =>
    rw [show w ++ tl [] = w by simp [tl], cutAt_of_not hw]
    rfl
  | cons p ps =>
    rw [show w ++ tl (p :: ps) = w ++ 32 :: (p ++ tl ps) from rfl, cutAt_app _ hw]
    have h : p ++ tl ps ≠ [] := fun e => hp p (.head _) (List.append_eq_nil_iff.1 e).1
    simp only [decide_eq_false h]
    rfl
theorem word_back (t : List UInt8) {ps : List (List UInt8)} (hp : Full ps) : wordV (word t ++ tl ps) = (t, rs ps, false) := by
  unfold wordV
  rw [unqG_word]
  cases ps with
  | nil => rfl
  | cons p ps =>
    have h : p ++ tl ps ≠ [] := fun e => hp p (.head _) (List.append_eq_nil_iff.1 e).1
    have hl := List.length_pos_iff.2 h
    show (if tl (p :: ps) = [] then (t, [], false) else if at' (tl (p :: ps)) 0 = 32 ∧ 1 < (tl (p :: ps)).length then (t, (tl (p :: ps)).drop 1, false) else (t, word t ++ tl (p :: ps), true)) = _
    rw [if_neg (by simp [tl]), if_pos ⟨rfl, by show 1 < (32 :: (p ++ tl ps)).length; rw [List.length_cons]; omega⟩]
    rfl
theorem number_back {n : Int} (h : -9223372036854775808 ≤ n ∧ n ≤ 9223372036854775807) {ps : List (List UInt8)} (hp : Full ps) : numberV (Lib.itoa n ++ tl ps) = (n, rs ps, false) := by
  unfold numberV
  rw [plain_back (itoa_no (by decide)) hp]
  simp only [(atoiN_itoa h).1, (atoiN_itoa h).2]
  simp
theorem word_ne (b : List UInt8) : word b ≠ [] := by unfold word; simp
theorem kinds_ok : ((List.range 22).all fun k => decide (idxV kindL (kindL.getD k []) = (k : Int)) && (decide ((kindL.getD k []) = []) == decide (k = 0)) && !(kindL.getD k []).contains 32 && !(kindL.getD k []).contains 10) = true := by kernel_rfl
theorem kind_ok {k : Int} (h : nameV k ≠ []) : (1 ≤ k ∧ k < 22) ∧ idxV kindL (nameV k) = k ∧ (32 : UInt8) ∉ nameV k ∧ (10 : UInt8) ∉ nameV k := by
  unfold nameV at h ⊢
  split at h
  · exact absurd rfl h
  · rename_i hk
    rw [if_neg hk]
    have h1 := List.all_eq_true.1 kinds_ok k.toNat (List.mem_range.2 (by omega))
    simp only [Bool.and_eq_true, decide_eq_true_eq, Bool.not_eq_true', List.contains_eq_mem, decide_eq_false_iff_not] at h1
    exact ⟨by omega, by rw [h1.1.1.1]; omega, h1.1.2, h1.2⟩
theorem kind_back {k : Int} (h : nameV k ≠ []) {ps : List (List UInt8)} (hp : Full ps) : kindV (nameV k ++ tl ps) = (k, rs ps, false) := by
  obtain ⟨h1, h2, h3, _⟩ := kind_ok h
  unfold kindV
  rw [plain_back h3 hp]
  simp only [h2]
  rw [decide_eq_false (by omega)]
  rfl
def opt (is : Bool) (p : List UInt8) : List (List UInt8) := if is then [p] else []
theorem putV_tl (is : Bool) (n : List UInt8) (ps : List (List UInt8)) (p : List UInt8) : putV is (n ++ tl ps) p = n ++ tl (ps ++ opt is p) := by
  unfold putV opt
  cases is
  · simp
  · rw [if_pos rfl, if_pos rfl, tl_append, List.append_assoc]
    simp [tl]
/-- An event's parts. -/
noncomputable def partsE (e : Evt) : List (List UInt8) :=
  opt (shapeV e.kind).1 (word e.p) ++ (opt (shapeV e.kind).2.1 (word e.q) ++ (opt (shapeV e.kind).2.2.1 (Lib.itoa e.a) ++ (opt (shapeV e.kind).2.2.2.1 (Lib.itoa e.b) ++ opt (shapeV e.kind).2.2.2.2 (word e.data))))
theorem lineV_eq (e : Evt) : lineV e = nameV e.kind ++ tl (partsE e) := by
  unfold lineV partsE
  rw [show nameV e.kind = nameV e.kind ++ tl [] by simp [tl], putV_tl, putV_tl, putV_tl, putV_tl, putV_tl]
  simp [tl]
theorem opt_full (is : Bool) {p : List UInt8} (h : p ≠ []) {ps : List (List UInt8)} (hp : Full ps) : Full (opt is p ++ ps) := fun q hq => by
  unfold opt at hq
  cases is
  · exact hp q (by simpa using hq)
  · rcases List.mem_cons.1 hq with rfl | hq
    · exact h
    · exact hp q hq
theorem full_nil : Full [] := fun _ h => by cases h
theorem opt_full1 (is : Bool) {p : List UInt8} (h : p ≠ []) : Full (opt is p) := by
  have := opt_full is h full_nil
  rwa [List.append_nil] at this
theorem stepP_back (is : Bool) (e : Evt) (p : List UInt8) {ps : List (List UInt8)} (hp : Full ps) (h : is = false → e.p = p) : stepP is (e, rs (opt is (word p) ++ ps), false) = ({ e with p := p }, rs ps, false) := by
  unfold stepP opt
  cases is
  · rw [← h rfl]; rfl
  · simp only [Bool.not_false, Bool.and_self, if_true, List.singleton_append, rs, word_back p hp]
    rfl
theorem stepQ_back (is : Bool) (e : Evt) (p : List UInt8) {ps : List (List UInt8)} (hp : Full ps) (h : is = false → e.q = p) : stepQ is (e, rs (opt is (word p) ++ ps), false) = ({ e with q := p }, rs ps, false) := by
  unfold stepQ opt
  cases is
  · rw [← h rfl]; rfl
  · simp only [Bool.not_false, Bool.and_self, if_true, List.singleton_append, rs, word_back p hp]
    rfl
theorem stepA_back (is : Bool) (e : Evt) (n : Int) (hn : -9223372036854775808 ≤ n ∧ n ≤ 9223372036854775807) {ps : List (List UInt8)} (hp : Full ps) (h : is = false → e.a = n) : stepA is (e, rs (opt is (Lib.itoa n) ++ ps), false) = ({ e with a := n }, rs ps, false) := by
  unfold stepA opt
  cases is
  · rw [← h rfl]; rfl
  · simp only [Bool.not_false, Bool.and_self, if_true, List.singleton_append, rs, number_back hn hp]
    rfl
theorem stepB_back (is : Bool) (e : Evt) (n : Int) (hn : -9223372036854775808 ≤ n ∧ n ≤ 9223372036854775807) {ps : List (List UInt8)} (hp : Full ps) (h : is = false → e.b = n) : stepB is (e, rs (opt is (Lib.itoa n) ++ ps), false) = ({ e with b := n }, rs ps, false) := by
  unfold stepB opt
  cases is
  · rw [← h rfl]; rfl
  · simp only [Bool.not_false, Bool.and_self, if_true, List.singleton_append, rs, number_back hn hp]
    rfl
theorem stepD_back (is : Bool) (e : Evt) (p : List UInt8) (h : is = false → e.data = p) : stepD is (e, rs (opt is (word p)), false) = ({ e with data := p }, [], false) := by
  unfold stepD opt
  cases is
  · rw [← h rfl]; rfl
  · simp only [Bool.not_false, Bool.and_self, if_true, rs, word_back p full_nil]
    rfl
/-- What a Kind's line has not is nothing. -/
theorem notE_no {e : Evt} (h : notE e = false) : nameV e.kind ≠ [] ∧ ((shapeV e.kind).1 = false → e.p = []) ∧ ((shapeV e.kind).2.1 = false → e.q = []) ∧ ((shapeV e.kind).2.2.1 = false → e.a = 0) ∧ ((shapeV e.kind).2.2.2.1 = false → e.b = 0) ∧ ((shapeV e.kind).2.2.2.2 = false → e.data = []) := by
  unfold notE at h
  simp only [Bool.or_eq_false_iff, Bool.and_eq_false_iff, decide_eq_false_iff_not, Bool.not_eq_false', decide_eq_true_eq, eqB_eq, beq_iff_eq] at h
  obtain ⟨h0, h1, h2, h3, h4, h5⟩ := h
  refine ⟨h0, fun e => ?_, fun e => ?_, fun e => ?_, fun e => ?_, fun e' => ?_⟩
  · rcases h1 with h | h
    · rw [e] at h; cases h
    · exact h
  · rcases h2 with h | h
    · rw [e] at h; cases h
    · exact h
  · rcases h3 with h | h
    · rw [e] at h; cases h
    · exact h
  · rcases h4 with h | h
    · rw [e] at h; cases h
    · exact h
  · rcases h5 with h | h
    · rw [e'] at h; cases h
    · rw [show (0 : Int) = ((0 : Nat) : Int) from rfl, ltB_nat, decide_eq_false_iff_not] at h
      exact List.eq_nil_of_length_eq_zero (by omega)
/-- Numbers that an int holds. -/
def Nums (e : Evt) : Prop := (-9223372036854775808 ≤ e.a ∧ e.a ≤ 9223372036854775807) ∧ (-9223372036854775808 ≤ e.b ∧ e.b ≤ 9223372036854775807)
theorem readE_line {e : Evt} (hn : Nums e) (h : notE e = false) : readE (lineV e) = (e, [], false) := by
  obtain ⟨h0, h1, h2, h3, h4, h5⟩ := notE_no h
  have f5 := opt_full1 (shapeV e.kind).2.2.2.2 (word_ne e.data)
  have f4 := opt_full (shapeV e.kind).2.2.2.1 (itoa_ne e.b) f5
  have f3 := opt_full (shapeV e.kind).2.2.1 (itoa_ne e.a) f4
  have f2 := opt_full (shapeV e.kind).2.1 (word_ne e.q) f3
  have f1 := opt_full (shapeV e.kind).1 (word_ne e.p) f2
  have hk : kindV (lineV e) = (e.kind, rs (partsE e), false) := by
    rw [lineV_eq]; exact kind_back h0 f1
  unfold readE readE0
  rw [hk]
  unfold partsE
  rw [stepP_back _ _ e.p f2 (fun i => (h1 i).symm), stepQ_back _ _ e.q f3 (fun i => (h2 i).symm), stepA_back _ _ e.a hn.1 f4 (fun i => (h3 i).symm), stepB_back _ _ e.b hn.2 f5 (fun i => (h4 i).symm), stepD_back _ _ e.data (fun i => (h5 i).symm)]
/-- An event's line is read as this event. -/
theorem event_line {e : Evt} (hn : Nums e) {t : List UInt8} (h : lineO e = some t) : eventV t = some e := by
  have h' := h
  unfold lineO at h
  split at h
  · cases h
  · rename_i hne
    have hne : notE e = false := by simpa using hne
    obtain rfl := Option.some.inj h
    unfold eventV eventB
    rw [readE_line hn hne]
    simp [h']
/-- .. and a line that is an event's is its line. -/
theorem line_event {s : List UInt8} {e : Evt} (h : eventV s = some e) : lineO e = some s := by
  unfold eventV at h
  split at h
  · rename_i hb
    obtain rfl := Option.some.inj h
    unfold eventB at hb
    simp only [Bool.and_eq_true, decide_eq_true_eq] at hb
    obtain ⟨_, _, h3, h4⟩ := hb
    cases hl : lineO (readE s).1 with
    | none => rw [hl] at h3; cases h3
    | some t => rw [hl] at h4; rw [← h4]; rfl
  · cases h
/-- The lines of things, one behind the other; none: one of them may not be written. -/
def writeV {α : Type} (f : α → Option (List UInt8)) : List α → Option (List UInt8)
  | [] => some []
  | x :: xs => match f x with
    | none => none
    | some t => (writeV f xs).map fun r => t ++ 10 :: r
end Go.Proofs.YtlcigkdflbfdgaaGreatDoor.sf
namespace Go.Proofs.YtlcigkdflbfdgaaGreatDoor.sf
set_option linter.unusedVariables false
open Go Go.Eng Go.Sh
end Go.Proofs.YtlcigkdflbfdgaaGreatDoor.sf
namespace Go.Proofs.YtlcigkdflbfdgaaGreatDoor.sf
set_option linter.unusedVariables false
open Go Go.Eng Go.Sh
section
variable {α : Type} (f : α → List UInt8) (o : α → Option (List UInt8))
/-- All the lines, whether they may be written or not. -/
def catV (xs : List α) : List UInt8 := xs.flatMap fun x => f x ++ [10]
theorem catV_next {S : List α} {i : Nat} (h : i < S.length) : catV f (S.take (i + 1)) = catV f (S.take i) ++ (f (S[i]'h) ++ [10]) := by
  unfold catV
  rw [List.take_add_one, List.getElem?_eq_getElem h, Option.toList_some, List.flatMap_append, List.flatMap_singleton]
theorem catV_le (S : List α) (i : Nat) : (catV f (S.take i)).length ≤ (catV f S).length := by
  conv => rhs; rw [← List.take_append_drop i S]
  unfold catV
  rw [List.flatMap_append, List.length_append]
  omega
theorem write_all : ∀ xs : List α, (∀ x ∈ xs, o x = some (f x)) → writeV o xs = some (catV f xs)
  | [], _ => rfl
  | x :: xs, h => by
    rw [writeV, h x (.head _)]
    simp only [write_all xs fun y hy => h y (.tail _ hy), Option.map_some]
    simp [catV]
theorem write_none : ∀ {xs : List α} {x : α}, x ∈ xs → o x = none → writeV o xs = none
  | y :: xs, x, hx, h => by
    rw [writeV]
    cases hy : o y with
    | none => rfl
    | some t =>
      rcases List.mem_cons.1 hx with rfl | hx
      · rw [h] at hy; cases hy
      · simp only [write_none hx h]
        rfl
def textR (xs : List α) : List UInt8 × Int := match writeV o xs with
  | none => ([], 1)
  | some t => if 65536 < t.length then ([], 3) else (t, 0)
end
section
variable {os : List (Nat × AObj)} {A : AW} {Q : Value → AW → Prop} {l D : List Thing}
theorem cFL (args : List Value) (I : Interp) (ρ : Type) (K : Value → M ρ) : callF CC I 19 args K = M.callS (.tuple [(.cell .string), (.cell .bool)]) (I.call (.call 19 args)) fun x => K ((RSh.tuple [(.cell .string), (.cell .bool)]).inj x) := by kernel_rfl
/-- An event of bounded length, its numbers int64's. -/
structure SmallE (x : Evt) : Prop where
  p : x.p.length < 2 ^ 36
  q : x.q.length < 2 ^ 36
  data : x.data.length < 2 ^ 36
  nums : Nums x
set_option maxRecDepth 20000 in
theorem writtenEG {a : Option Addr} {c : Nat} {L : List Value} {xs : List Evt} (hro : RowsAt (tabsOf os) D a xs.length 6 L) (hall : AllAt (EvtAt (tabsOf os) D) 6 L xs) (hD : ∀ t ∈ D, t ∈ l) (hf : ∀ x ∈ xs, SmallE x) (hn : xs.length < 2 ^ 38) (hW : (catV lineV xs).length < 2 ^ 38) (hr : Runes os) (hp : Hp (tabsOf os) A l)
    (H : ∀ A', Hp (tabsOf os) A' l → Q (.tuple ⟨[.string (BA (textR lineO xs).1), .int .i64 (textR lineO xs).2]⟩) A') : Goes (XX os) 8 18 [.slice a xs.length c, .func (.func 19) ⟨[]⟩ ⟨[]⟩] A Q := by
  refine t18 (d := 7) ((a, xs.length, c), .func (.func 19) ⟨[]⟩ ⟨[]⟩, ()) fun n hn' => ?_
  unfold f18
  refine ev_new hp fun b A1 hp => ?_
  have hp := (hp.vec0 5 1 false).front 1 rfl
  unfold f18c2
  refine ev_bind (ev_LL (fun μ st A' => ∃ i p a', μ = xs.length - i ∧ i ≤ xs.length ∧ st = (((i : Nat) : Int), ()) ∧ Hp (tabsOf os) A' (bldr b p a' (catV lineV (xs.take i)) l) ∧ (p = none ∨ p = some ⟨b, 0, none⟩) ∧ (a' = none ∨ 1 ≤ (catV lineV (xs.take i)).length) ∧ ∀ x ∈ xs.take i, lineO x = some (lineV x)) (m := xs.length)
    ⟨0, none, none, rfl, by omega, rfl, hp, .inl rfl, .inl rfl, by simp⟩ (by omega) ?_)
  rintro μ st A2 ⟨i, p, a', rfl, hi, rfl, hp, hpp, ha', hok⟩
  simp only [ltB_nat]
  refine ev_ite (fun h => ?_) fun h => ?_
  · have h := of_decide_eq_true h
    refine ev_guard ((inB_nat i _).trans (decide_eq_true h)) ?_
    obtain ⟨b1, rfl⟩ := hro.some (hp.has fun t ht => .tail _ (.tail _ (hD t ht))) h
    obtain ⟨d, hc, hsee⟩ := hall.2 i h
    have hx := hf xs[i] (List.getElem_mem _)
    have hle := catV_le lineV xs (i + 1)
    rw [catV_next lineV h, List.length_append, List.length_append] at hle
    have hnx := catV_next lineV h
    have hmem : xs[i] ∈ xs := List.getElem_mem _
    have htk : xs.take (i + 1) = xs.take i ++ [xs[i]] := by rw [List.take_add_one, List.getElem?_eq_getElem h]; rfl
    refine ev_rec (i := i) hp (fun t ht => .tail _ (.tail _ (hD t ht))) hro h (x := (xs[i].kind, BA xs[i].p, BA xs[i].q, xs[i].a, xs[i].b, d, ())) (by rw [hc]; rfl) ?_
    unfold f18c1
    refine ev_new hp fun b6 A3 hp => ?_
    refine ev_store 0 hp rfl rfl (Nat.le_of_ble_eq_true rfl) rfl fun A4 hp => ?_
    refine ev_load 0 hp rfl rfl rfl (Nat.le_of_ble_eq_true rfl) (x := (xs[i].kind, BA xs[i].p, BA xs[i].q, xs[i].a, xs[i].b, d, ())) rfl ?_
    unfold f18c0
    have hp2 := hp.tail
    simp only [callV, List.nil_append, List.append_nil]
    rw [cFL]
    generalize xs[i] = x at *
    refine (lineG x d hsee.1 hsee (fun t ht => .tail _ (.tail _ (hD t ht))) hr hx.p hx.q hx.data hx.nums.1 hx.nums.2 hp2 fun A5 hp => ⟨(BA ((lineO x).getD []), (lineO x).isSome, ()), rfl, ?_⟩).use hn'
    refine ev_need (x := (BA ((lineO x).getD []), (lineO x).isSome, ())) rfl ?_
    cases hl : lineO x with
    | none =>
      refine ev_t rfl (ev_pure (ev_pure ?_))
      have : textR lineO xs = ([], 1) := by unfold textR; rw [write_none lineO hmem hl]
      rw [this] at H
      exact H A5 hp.tail.tail
    | some t =>
      obtain rfl : t = lineV x := by
        unfold lineO at hl
        split at hl
        · cases hl
        · exact (Option.some.inj hl).symm
      refine ev_f rfl ?_
      rw [show st13 = BA [10] from rfl]
      have h1 : [(10 : UInt8)].length = 1 := rfl
      refine ev_guard (Nat.ble_eq_true_of_le (by show (lineV x).length + 1 ≤ _; omega)) ?_
      simp only [Option.getD_some]
      rw [BA_append]
      refine ((writeStringG (lineV x ++ [10]) hp hpp (by rw [List.length_append]; omega) fun A6 a6 hp => ⟨(((lineV x ++ [10]).length : Int), .nilIface, ()), rfl, ?_⟩).mono (show 2 ≤ 7 by decide)).use hn'
      refine ev_pure ⟨xs.length - (i + 1), by omega, i + 1, _, a6, rfl, by omega, by rw [addW_1 (by omega)], by rw [hnx]; exact hp, .inr rfl, .inr (by rw [hnx]; simp; omega), fun y hy => ?_⟩
      rw [htk] at hy
      rcases List.mem_append.1 hy with hy | hy
      · exact hok y hy
      · rw [List.mem_singleton.1 hy]; exact hl
  · have h := of_decide_eq_false h
    rw [List.take_of_length_le (by omega)] at hp ha' hok
    refine ev_pure ?_
    simp only [Round, M.sum]
    have hw := write_all lineV lineO xs hok
    refine ((lenG hp fun A3 hp => ⟨_, rfl, ?_⟩).mono (show 1 ≤ 7 by decide)).use hn'
    rw [ltB_lit']
    refine ev_ite (fun h2 => ?_) fun h2 => ?_
    · have h2 := of_decide_eq_true h2
      have : textR lineO xs = ([], 3) := by unfold textR; rw [hw]; exact if_pos h2
      rw [this] at H
      exact ev_pure (H A3 hp.tail.tail)
    · have h2 := of_decide_eq_false h2
      have : textR lineO xs = (catV lineV xs, 0) := by unfold textR; rw [hw]; exact if_neg h2
      rw [this] at H
      exact ((stringG hp (by omega) ha' fun A4 hp => ⟨_, rfl, ev_pure (H A4 hp)⟩).mono (show 1 ≤ 7 by decide)).use hn'
theorem textG {a : Option Addr} {c : Nat} {L : List Value} {xs : List Evt} (hro : RowsAt (tabsOf os) D a xs.length 6 L) (hall : AllAt (EvtAt (tabsOf os) D) 6 L xs) (hD : ∀ t ∈ D, t ∈ l) (hf : ∀ x ∈ xs, SmallE x) (hn : xs.length < 2 ^ 38) (hW : (catV lineV xs).length < 2 ^ 38) (hr : Runes os) (hp : Hp (tabsOf os) A l)
    (H : ∀ A', Hp (tabsOf os) A' l → Q (.tuple ⟨[.string (BA (textR lineO xs).1), .int .i64 (textR lineO xs).2]⟩) A') : Goes (XX os) 9 5 [.slice a xs.length c] A Q := by
  refine t5 (d := 8) ((a, xs.length, c), ()) fun n hn' => ?_
  simp only [f5]
  exact (writtenEG hro hall hD hf hn hW hr hp fun A1 hp => ⟨(BA (textR lineO xs).1, (textR lineO xs).2, ()), rfl, ev_pure (H A1 hp)⟩).use hn'
end
end Go.Proofs.YtlcigkdflbfdgaaGreatDoor.sf
