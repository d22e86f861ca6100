/-
  Walks: WP, WQ.
-/
import Derived.Test.YtlcigkdflbfdgaaDoorSjWO
namespace Go.Proofs.YtlcigkdflbfdgaaDoor.sj
set_option linter.unusedVariables false
open Go Go.Eng Go.Sh
section
variable {os : List (Nat × AObj)} {A : AW} {Q : Value → AW → Prop} {l D : List Thing}
theorem take_run (L c : List Value) (i k : Nat) (h : (L.drop (i * k)).take k = c) : L.take ((i + 1) * k) = L.take (i * k) ++ c := by
  rw [← h, Nat.add_mul, Nat.one_mul, List.take_add]
theorem theirsG {a : Option Addr} {c : Nat} {L : List Value} {xs : List Evt} (hro : RowsAt (tabsOf os) D a xs.length 6 L) (hall : AllAt (EvtAt (tabsOf os) D) 6 L xs) (hD : ∀ t ∈ D, t ∈ l) (hn : xs.length < 2 ^ 38) (hp : Hp (tabsOf os) A l)
    (H : ∀ A' a', Hp (tabsOf os) A' (.vec 77 6 false a' xs.length xs.length L :: l) → Q (.slice a' xs.length xs.length) A') : Goes (XX os) 1 15 [.slice a xs.length c] A Q := by
  refine t15 (d := 0) ((a, xs.length, c), ()) fun n hn' => ?_
  unfold f15
  have hp := hp.vec0 77 6 false
  refine ev_bind (ev_LL (fun μ st A' => ∃ i a', μ = xs.length - i ∧ i ≤ xs.length ∧ st = ((a', i, i), ((i : Nat) : Int), ()) ∧ Hp (tabsOf os) A' (.vec 77 6 false a' i i (L.take (i * 6)) :: l)) (m := xs.length) ⟨0, none, rfl, by omega, rfl, by simpa using hp⟩ (by omega) ?_)
  rintro μ st A1 ⟨i, a', rfl, hi, rfl, hp⟩
  simp only [ltB_nat, inB_nat]
  refine ev_ite (fun h => ?_) fun h => ?_
  · have h := of_decide_eq_true h
    refine ev_guard (decide_eq_true h) ?_
    obtain ⟨b, rfl⟩ := hro.some (hp.has fun t ht => .tail _ (hD t ht)) h
    obtain ⟨d, hc, hsee⟩ := hall.2 i h
    show Ev (f15c0 (XX os n) LL ((a', i, i), ((i : Nat) : Int), ()) b) A1 _
    unfold f15c0
    refine ev_rec (i := i) hp (fun t ht => .tail _ (hD t ht)) hro h (x := (xs[i].kind, BA xs[i].p, BA xs[i].q, xs[i].a, xs[i].b, d, ())) (by rw [hc]; rfl) ?_
    refine ev_new hp fun b5 A2 hp => ?_
    refine ev_append_row 1 0 hp rfl rfl (m := 1) rfl (by decide) (by decide) (by show (2 * (i + 1) + 200) * 80 ≤ _; omega) rfl fun A3 a9 hp => ?_
    refine ev_pure ⟨xs.length - (i + 1), by omega, i + 1, a9, rfl, by omega, by rw [addW_1 (by omega)], ?_⟩
    rw [take_run L _ i 6 hc]
    exact hp.tail
  · have h := of_decide_eq_false h
    obtain rfl : i = xs.length := by omega
    rw [List.take_of_length_le (by rw [hall.1]; exact Nat.le_refl _)] at hp
    exact ev_pure (ev_pure (H A1 a' hp))
theorem toldG {a : Option Addr} {c : Nat} {L : List Value} {xs : List Rw} (hro : RowsAt (tabsOf os) D a xs.length 9 L) (hall : AllAt (RwAt (tabsOf os) D) 9 L xs) (hD : ∀ t ∈ D, t ∈ l) (hn : xs.length < 2 ^ 38) (hp : Hp (tabsOf os) A l)
    (H : ∀ A' a', Hp (tabsOf os) A' (.vec 83 9 false a' xs.length xs.length L :: l) → Q (.slice a' xs.length xs.length) A') : Goes (XX os) 1 19 [.slice a xs.length c] A Q := by
  refine t19 (d := 0) ((a, xs.length, c), ()) fun n hn' => ?_
  unfold f19
  have hp := hp.vec0 83 9 false
  refine ev_bind (ev_LL (fun μ st A' => ∃ i a', μ = xs.length - i ∧ i ≤ xs.length ∧ st = ((a', i, i), ((i : Nat) : Int), ()) ∧ Hp (tabsOf os) A' (.vec 83 9 false a' i i (L.take (i * 9)) :: l)) (m := xs.length) ⟨0, none, rfl, by omega, rfl, by simpa using hp⟩ (by omega) ?_)
  rintro μ st A1 ⟨i, a', rfl, hi, rfl, hp⟩
  simp only [ltB_nat]
  refine ev_ite (fun h => ?_) fun h => ?_
  · have h := of_decide_eq_true h
    unfold f19c2
    refine ev_guard ((inB_nat i _).trans (decide_eq_true h)) ?_
    obtain ⟨b, rfl⟩ := hro.some (hp.has fun t ht => .tail _ (hD t ht)) h
    obtain ⟨d, e, hc, hsee, _⟩ := hall.2 i h
    refine ev_rec (i := i) hp (fun t ht => .tail _ (hD t ht)) hro h (x := (xs[i].kind, xs[i].err, xs[i].is, d, xs[i].s1, xs[i].s2, xs[i].s3, xs[i].s4, e, ())) (by rw [hc]; rfl) ?_
    refine ev_new hp fun b5 A2 hp => ?_
    unfold f19c1
    refine ev_store 0 hp rfl rfl (Nat.le_of_ble_eq_true rfl) rfl fun A3 hp => ?_
    refine ev_load 0 hp rfl rfl rfl (Nat.le_of_ble_eq_true rfl) (x := xs[i].kind) rfl ?_
    refine ev_load 0 hp rfl rfl rfl (Nat.le_of_ble_eq_true rfl) (x := xs[i].err) rfl ?_
    refine ev_load 0 hp rfl rfl rfl (Nat.le_of_ble_eq_true rfl) (x := xs[i].is) rfl ?_
    refine ev_load 0 hp rfl rfl rfl (Nat.le_of_ble_eq_true rfl) (x := d) rfl ?_
    refine ev_load 0 hp rfl rfl rfl (Nat.le_of_ble_eq_true rfl) (x := (xs[i].s1, xs[i].s2, xs[i].s3, xs[i].s4, ())) rfl ?_
    unfold f19c0
    refine ev_load 0 hp rfl rfl rfl (Nat.le_of_ble_eq_true rfl) (x := e) rfl ?_
    refine ev_new hp fun b12 A4 hp => ?_
    refine ev_append_row 2 0 hp rfl rfl (m := 1) rfl (by decide) (by decide) (by show (2 * (i + 1) + 200) * 104 ≤ _; omega) rfl fun A5 a9 hp => ?_
    refine ev_pure ⟨xs.length - (i + 1), by omega, i + 1, a9, rfl, by omega, by rw [addW_1 (by omega)], ?_⟩
    rw [take_run L _ i 9 hc]
    exact hp.tail.tail
  · have h := of_decide_eq_false h
    obtain rfl : i = xs.length := by omega
    rw [List.take_of_length_le (by rw [hall.1]; exact Nat.le_refl _)] at hp
    exact ev_pure (ev_pure (H A1 a' hp))
theorem veqv_evt (x : Evt) (d : SL) : veqv (.agg ⟨evtC x d⟩) (.agg ⟨evtC x d⟩) = true := by
  simp [veqv, veqs, veq1, BA_seq]
theorem veqv_rw (x : Rw) (d e : SL) : veqv (.agg ⟨rwC x d e⟩) (.agg ⟨rwC x d e⟩) = true := by
  simp [veqv, veqs, veq1]
theorem eqB_self (a : Int) : eqB a a = true := by rw [eqB_eq]; simp
theorem seq_self (s : List UInt8) : seq (BA s) (BA s) = true := by rw [BA_seq]; simp
/-- Two lists of the same events are the same. -/
theorem eventsG {a1 a2 : Option Addr} {c1 c2 : Nat} {L1 L2 : List Value} {xs : List Evt} (h1 : RowsAt (tabsOf os) D a1 xs.length 6 L1) (k1 : AllAt (EvtAt (tabsOf os) D) 6 L1 xs) (h2 : RowsAt (tabsOf os) D a2 xs.length 6 L2) (k2 : AllAt (EvtAt (tabsOf os) D) 6 L2 xs)
    (hD : ∀ t ∈ D, t ∈ l) (hn : xs.length < 2 ^ 38) (hp : Hp (tabsOf os) A l) (H : ∀ A', Hp (tabsOf os) A' l → Q (.bool true) A') : Goes (XX os) 1 14 [.slice a1 xs.length c1, .slice a2 xs.length c2] A Q := by
  refine t14 (d := 0) ((a1, xs.length, c1), (a2, xs.length, c2), ()) fun n hn' => ?_
  unfold f14
  refine ev_f (by rw [eqB_self]; rfl) ?_
  refine ev_bind (ev_LL (fun μ st A' => ∃ i, μ = xs.length - i ∧ i ≤ xs.length ∧ st = (((i : Nat) : Int), ()) ∧ Hp (tabsOf os) A' l) (m := xs.length) ⟨0, rfl, by omega, rfl, hp⟩ (by omega) ?_)
  rintro μ st A1 ⟨i, rfl, hi, rfl, hp⟩
  simp only [ltB_nat]
  refine ev_ite (fun h => ?_) fun h => ?_
  · have h := of_decide_eq_true h
    unfold f14c4
    refine ev_guard ((inB_nat i _).trans (decide_eq_true h)) ?_
    obtain ⟨b1, rfl⟩ := h1.some (hp.has hD) h
    obtain ⟨b2, rfl⟩ := h2.some (hp.has hD) h
    obtain ⟨d1, hc1, hsee1⟩ := k1.2 i h
    obtain ⟨d2, hc2, hsee2⟩ := k2.2 i h
    have e2 : Sh.ofCells (.agg [(.int .i64), .string, .string, (.int .i64), (.int .i64), .slice]) ((L2.drop (i * 6)).take 6) = some (xs[i].kind, BA xs[i].p, BA xs[i].q, xs[i].a, xs[i].b, d2, ()) := by rw [hc2]; rfl
    refine ev_rec (i := i) hp hD h1 h (x := (xs[i].kind, BA xs[i].p, BA xs[i].q, xs[i].a, xs[i].b, d1, ())) (by rw [hc1]; rfl) ?_
    refine ev_guard ((inB_nat i _).trans (decide_eq_true h)) ?_
    refine ev_rec (i := i) hp hD h2 h e2 ?_
    unfold f14c3
    refine ev_new hp fun b10 A2 hp => ?_
    refine ev_new hp fun b11 A3 hp => ?_
    refine ev_store 1 hp rfl rfl (Nat.le_of_ble_eq_true rfl) rfl fun A4 hp => ?_
    unfold f14c2
    refine ev_rec (i := i) hp (fun t ht => .tail _ (.tail _ (hD t ht))) h2 h e2 (ev_cond_t (veqv_evt xs[i] d2) ?_)
    refine ev_store 0 hp rfl rfl (Nat.le_of_ble_eq_true rfl) rfl fun A5 hp => ?_
    generalize xs[i] = x at *
    refine ev_join (fun j A' => Hp (tabsOf os) A' l ∧ j = (false, ())) ?_ fun go hgo => ?_
    · rintro _ A6 ⟨hp, rfl⟩
      exact ev_f rfl (ev_pure ⟨xs.length - (i + 1), by omega, i + 1, rfl, by omega, by rw [addW_1 (by omega)], hp⟩)
    refine ev_load 1 hp rfl rfl rfl (Nat.le_of_ble_eq_true rfl) (x := x.kind) rfl ?_
    refine ev_load 0 hp rfl rfl rfl (Nat.le_of_ble_eq_true rfl) (x := x.kind) rfl ?_
    refine ev_f (by rw [eqB_self]; rfl) ?_
    unfold f14c1
    refine ev_load 1 hp rfl rfl rfl (Nat.le_of_ble_eq_true rfl) (x := BA x.p) rfl ?_
    refine ev_load 0 hp rfl rfl rfl (Nat.le_of_ble_eq_true rfl) (x := BA x.p) rfl ?_
    refine ev_f (by rw [seq_self]; rfl) ?_
    refine ev_load 1 hp rfl rfl rfl (Nat.le_of_ble_eq_true rfl) (x := BA x.q) rfl ?_
    refine ev_load 0 hp rfl rfl rfl (Nat.le_of_ble_eq_true rfl) (x := BA x.q) rfl ?_
    refine ev_f (by rw [seq_self]; rfl) ?_
    refine ev_load 1 hp rfl rfl rfl (Nat.le_of_ble_eq_true rfl) (x := x.a) rfl ?_
    unfold f14c0
    refine ev_load 0 hp rfl rfl rfl (Nat.le_of_ble_eq_true rfl) (x := x.a) rfl ?_
    refine ev_f (by rw [eqB_self]; rfl) ?_
    refine ev_load 1 hp rfl rfl rfl (Nat.le_of_ble_eq_true rfl) (x := x.b) rfl ?_
    refine ev_load 0 hp rfl rfl rfl (Nat.le_of_ble_eq_true rfl) (x := x.b) rfl ?_
    refine ev_f (by rw [eqB_self]; rfl) ?_
    refine ev_load 1 hp rfl rfl rfl (Nat.le_of_ble_eq_true rfl) (x := d1) rfl ?_
    refine ev_see hp (fun t ht => .tail _ (.tail _ (hD t ht))) hsee1 ?_
    refine ev_load 0 hp rfl rfl rfl (Nat.le_of_ble_eq_true rfl) (x := d2) rfl ?_
    refine ev_see hp (fun t ht => .tail _ (.tail _ (hD t ht))) hsee2 ?_
    exact hgo _ A5 ⟨hp.tail.tail, by rw [seq_self]; rfl⟩
  · exact ev_pure (ev_pure (H A1 hp))
/-- Entries that are the same. -/
theorem sameG {a1 a2 : Option Addr} {c1 c2 : Nat} {S : List (Int × List UInt8)} (h1 : RowsAt (tabsOf os) D a1 S.length 2 (entC S)) (h2 : RowsAt (tabsOf os) D a2 S.length 2 (entC S))
    (hD : ∀ t ∈ D, t ∈ l) (hn : S.length < 2 ^ 38) (hp : Hp (tabsOf os) A l) (H : ∀ A', Hp (tabsOf os) A' l → Q (.bool true) A') : Goes (XX os) 1 38 [.slice a1 S.length c1, .slice a2 S.length c2] A Q := by
  refine t38 (d := 0) ((a1, S.length, c1), (a2, S.length, c2), ()) fun n hn' => ?_
  unfold f38
  refine ev_f (by rw [eqB_self]; rfl) ?_
  refine ev_bind (ev_LL (fun μ st A' => ∃ i, μ = S.length - i ∧ i ≤ S.length ∧ st = (((i : Nat) : Int), ()) ∧ Hp (tabsOf os) A' l) (m := S.length) ⟨0, rfl, by omega, rfl, hp⟩ (by omega) ?_)
  rintro μ st A1 ⟨i, rfl, hi, rfl, hp⟩
  simp only [ltB_nat]
  refine ev_ite (fun h => ?_) fun h => ?_
  · have h := of_decide_eq_true h
    refine ev_guard ((inB_nat i _).trans (decide_eq_true h)) ?_
    obtain ⟨b1, rfl⟩ := h1.some (hp.has hD) h
    obtain ⟨b2, rfl⟩ := h2.some (hp.has hD) h
    have e1 : Sh.ofCells (.agg [(.int .i64), .string]) (((entC S).drop (i * 2)).take 2) = some (S[i].1, BA S[i].2, ()) := by rw [entC_at S i h]; rfl
    show Ev (f38c0 (XX os n) LL _ _ b1) A1 _
    unfold f38c0
    refine ev_rec (i := i) hp hD h1 h e1 ?_
    refine ev_guard ((inB_nat i _).trans (decide_eq_true h)) ?_
    refine ev_rec (i := i) hp hD h2 h e1 ?_
    rw [ent_eql]
    refine ev_f (by simp [seq_self]) (ev_pure ⟨S.length - (i + 1), by omega, i + 1, rfl, by omega, by rw [addW_1 (by omega)], hp⟩)
  · exact ev_pure (ev_pure (H A1 hp))
/-- Two lists of the same rows are the same. -/
theorem rowsG {a1 a2 : Option Addr} {c1 c2 : Nat} {L1 L2 : List Value} {xs : List Rw} (h1 : RowsAt (tabsOf os) D a1 xs.length 9 L1) (k1 : AllAt (RwAt (tabsOf os) D) 9 L1 xs) (h2 : RowsAt (tabsOf os) D a2 xs.length 9 L2) (k2 : AllAt (RwAt (tabsOf os) D) 9 L2 xs)
    (hD : ∀ t ∈ D, t ∈ l) (hn : xs.length < 2 ^ 38) (hs : ∀ x ∈ xs, x.ents.length < 2 ^ 38) (hp : Hp (tabsOf os) A l) (H : ∀ A', Hp (tabsOf os) A' l → Q (.bool true) A') : Goes (XX os) 2 18 [.slice a1 xs.length c1, .slice a2 xs.length c2] A Q := by
  refine t18 (d := 1) ((a1, xs.length, c1), (a2, xs.length, c2), ()) fun n hn' => ?_
  unfold f18
  refine ev_f (by rw [eqB_self]; rfl) ?_
  unfold f18c6
  refine ev_bind (ev_LL (fun μ st A' => ∃ i, μ = xs.length - i ∧ i ≤ xs.length ∧ st = (((i : Nat) : Int), ()) ∧ Hp (tabsOf os) A' l) (m := xs.length) ⟨0, rfl, by omega, rfl, hp⟩ (by omega) ?_)
  rintro μ st A1 ⟨i, rfl, hi, rfl, hp⟩
  simp only [ltB_nat]
  refine ev_ite (fun h => ?_) fun h => ?_
  · have h := of_decide_eq_true h
    refine ev_guard ((inB_nat i _).trans (decide_eq_true h)) ?_
    obtain ⟨b1, rfl⟩ := h1.some (hp.has hD) h
    obtain ⟨b2, rfl⟩ := h2.some (hp.has hD) h
    obtain ⟨d1, e1, hc1, hsee1, hr1, he1⟩ := k1.2 i h
    obtain ⟨d2, e2, hc2, hsee2, hr2, he2⟩ := k2.2 i h
    have hsx := hs xs[i] (List.getElem_mem _)
    have o1 : Sh.ofCells (.agg [(.int .i64), (.int .i64), .bool, .slice, (.int .i64), (.int .i64), (.int .i64), (.int .i64), .slice]) ((L1.drop (i * 9)).take 9) = some (xs[i].kind, xs[i].err, xs[i].is, d1, xs[i].s1, xs[i].s2, xs[i].s3, xs[i].s4, e1, ()) := by rw [hc1]; rfl
    have o2 : Sh.ofCells (.agg [(.int .i64), (.int .i64), .bool, .slice, (.int .i64), (.int .i64), (.int .i64), (.int .i64), .slice]) ((L2.drop (i * 9)).take 9) = some (xs[i].kind, xs[i].err, xs[i].is, d2, xs[i].s1, xs[i].s2, xs[i].s3, xs[i].s4, e2, ()) := by rw [hc2]; rfl
    refine ev_rec (i := i) hp hD h1 h o1 ?_
    unfold f18c5
    refine ev_guard ((inB_nat i _).trans (decide_eq_true h)) ?_
    refine ev_rec (i := i) hp hD h2 h o2 ?_
    refine ev_new hp fun b10 A2 hp => ?_
    unfold f18c4
    refine ev_new hp fun b11 A3 hp => ?_
    refine ev_store 1 hp rfl rfl (Nat.le_of_ble_eq_true rfl) rfl fun A4 hp => ?_
    unfold f18c3
    refine ev_rec (i := i) hp (fun t ht => .tail _ (.tail _ (hD t ht))) h2 h o2 (ev_cond_t (veqv_rw xs[i] d2 e2) ?_)
    refine ev_store 0 hp rfl rfl (Nat.le_of_ble_eq_true rfl) rfl fun A5 hp => ?_
    clear o1 o2 hc1 hc2
    generalize xs[i] = x at *
    refine ev_join (fun j A' => Hp (tabsOf os) A' l ∧ j = (false, ())) ?_ fun go hgo => ?_
    · rintro _ A6 ⟨hp, rfl⟩
      exact ev_f rfl (ev_pure ⟨xs.length - (i + 1), by omega, i + 1, rfl, by omega, by rw [addW_1 (by omega)], hp⟩)
    refine ev_load 1 hp rfl rfl rfl (Nat.le_of_ble_eq_true rfl) (x := x.kind) rfl ?_
    refine ev_load 0 hp rfl rfl rfl (Nat.le_of_ble_eq_true rfl) (x := x.kind) rfl ?_
    unfold f18c2
    refine ev_f (by rw [eqB_self]; rfl) ?_
    refine ev_load 1 hp rfl rfl rfl (Nat.le_of_ble_eq_true rfl) (x := x.err) rfl ?_
    refine ev_load 0 hp rfl rfl rfl (Nat.le_of_ble_eq_true rfl) (x := x.err) rfl ?_
    refine ev_f (by rw [eqB_self]; rfl) ?_
    refine ev_load 1 hp rfl rfl rfl (Nat.le_of_ble_eq_true rfl) (x := x.is) rfl ?_
    refine ev_load 0 hp rfl rfl rfl (Nat.le_of_ble_eq_true rfl) (x := x.is) rfl ?_
    refine ev_f (by simp) ?_
    refine ev_load 1 hp rfl rfl rfl (Nat.le_of_ble_eq_true rfl) (x := d1) rfl ?_
    unfold f18c1
    refine ev_see hp (fun t ht => .tail _ (.tail _ (hD t ht))) hsee1 ?_
    refine ev_load 0 hp rfl rfl rfl (Nat.le_of_ble_eq_true rfl) (x := d2) rfl ?_
    refine ev_see hp (fun t ht => .tail _ (.tail _ (hD t ht))) hsee2 ?_
    refine ev_f (by rw [seq_self]; rfl) ?_
    refine ev_load 1 hp rfl rfl rfl (Nat.le_of_ble_eq_true rfl) (x := (x.s1, x.s2, x.s3, x.s4, ())) rfl ?_
    refine ev_load 0 hp rfl rfl rfl (Nat.le_of_ble_eq_true rfl) (x := (x.s1, x.s2, x.s3, x.s4, ())) rfl ?_
    unfold f18c0
    rw [stat_eql]
    refine ev_f (by simp) ?_
    refine ev_load 1 hp rfl rfl rfl (Nat.le_of_ble_eq_true rfl) (x := e1) rfl ?_
    refine ev_load 0 hp rfl rfl rfl (Nat.le_of_ble_eq_true rfl) (x := e2) rfl ?_
    obtain ⟨p1, m1, z1⟩ := e1
    obtain ⟨p2, m2, z2⟩ := e2
    simp only at he1 he2 hr1 hr2
    subst he1 he2
    refine (sameG (c1 := z1) (c2 := z2) hr1 hr2 (fun t ht => .tail _ (.tail _ (hD t ht))) hsx hp fun A6 hp => ⟨true, rfl, ?_⟩).use hn'
    exact hgo _ A6 ⟨hp.tail.tail, rfl⟩
  · exact ev_pure (ev_pure (H A1 hp))
end
end Go.Proofs.YtlcigkdflbfdgaaDoor.sj
namespace Go.Proofs.YtlcigkdflbfdgaaDoor.sj
set_option linter.unusedVariables false
open Go Go.Eng Go.Sh
section
variable {os : List (Nat × AObj)} {A : AW} {Q : Value → AW → Prop} {l : List Thing}
abbrev PR := (SL) × (Int) × (Int) × Unit
def prV (r : PR) : Value := .tuple ⟨[.slice r.1.1 r.1.2.1 r.1.2.2, .int .i64 r.2.1, .int .i64 r.2.2.1]⟩
/-- How a text was read. -/
inductive Res {α : Type} (T : Tabs) (f : List UInt8 → Option α) (R : Tabs → List Thing → List Value → α → Prop) (esz : Nat) (s : List UInt8) (E : List Thing) : PR → Prop where
  | long (h : 65536 < s.length) : Res T f R esz s E ((none, 0, 0), 0, 3, ())
  | ok (h : s.length ≤ 65536) (xs : List α) (a : Option Addr) (L : List Value) (he : parseV f s = .ok xs) (h1 : RowsAt T E a xs.length esz L) (h2 : AllAt (R T E) esz L xs) : Res T f R esz s E ((a, xs.length, xs.length), 0, 0, ())
  | bad (h : s.length ≤ 65536) (k : Nat) (he : parseV f s = .error k) : Res T f R esz s E ((none, 0, 0), (k : Int), 5, ())
abbrev ResE (T : Tabs) (s : List UInt8) (E : List Thing) (r : PR) : Prop := Res T eventV EvtAt 6 s E r
abbrev ResR (T : Tabs) (s : List UInt8) (E : List Thing) (r : PR) : Prop := Res T rowV RwAt 9 s E r
theorem resE_mono {T : Tabs} {s : List UInt8} {E E' : List Thing} {r : PR} (h : ResE T s E r) (hs : ∀ t ∈ E, t ∈ E') : ResE T s E' r := by
  cases h with
  | long h => exact .long h
  | ok h xs a L he h1 h2 => exact .ok h xs a L he (h1.mono hs) (h2.mono fun c x k => k.mono hs)
  | bad h k he => exact .bad h k he
theorem resR_mono {T : Tabs} {s : List UInt8} {E E' : List Thing} {r : PR} (h : ResR T s E r) (hs : ∀ t ∈ E, t ∈ E') : ResR T s E' r := by
  cases h with
  | long h => exact .long h
  | ok h xs a L he h1 h2 => exact .ok h xs a L he (h1.mono hs) (h2.mono fun c x k => k.mono hs)
  | bad h k he => exact .bad h k he
theorem parseE (s : List UInt8) (hs : s.length < 2 ^ 36) (hr : Runes os) (hp : Hp (tabsOf os) A l) (H : ∀ A' E r, Hp (tabsOf os) A' (E ++ l) → ResE (tabsOf os) s E r → Q (prV r) A') : Goes (XX os) 12 13 [.string (BA s)] A Q :=
  parseG s hs hr hp (fun h A' hp => H A' [] _ hp (.long h)) (fun h xs A' a L D he hp hall => H A' (_ :: D) _ hp (.ok h xs a L he (.vec (.head _) hall.1) (hall.mono fun c x k => k.mono fun t ht => .tail _ ht))) (fun h k A' he hp => H A' [] _ hp (.bad h k he))
theorem parseR (s : List UInt8) (hs : s.length < 2 ^ 36) (hr : Runes os) (hp : Hp (tabsOf os) A l) (H : ∀ A' E r, Hp (tabsOf os) A' (E ++ l) → ResR (tabsOf os) s E r → Q (prV r) A') : Goes (XX os) 11 17 [.string (BA s)] A Q :=
  parseRG s hs hr hp (fun h A' hp => H A' [] _ hp (.long h)) (fun h xs A' a L D he hp hall => H A' (_ :: D) _ hp (.ok h xs a L he (.vec (.head _) hall.1) (hall.mono fun c x k => k.mono fun t ht => .tail _ ht))) (fun h k A' he hp => H A' [] _ hp (.bad h k he))
theorem parse_badle {α : Type} (f : List UInt8 → Option α) : ∀ (k : Nat) (s : List UInt8), parseV f s = .error k → k ≤ s.length + 1
  | k, s, h => by
    by_cases hs : s = []
    · subst hs
      rw [parse_nil] at h
      cases h
    · cases hc : cutAt 10 s with
      | none =>
        rw [parse_none f hs hc] at h
        obtain rfl := Except.error.inj h
        omega
      | some p =>
        cases hf : f p.1 with
        | none =>
          rw [parse_bad f hc hf] at h
          obtain rfl := Except.error.inj h
          omega
        | some x =>
          rw [parse_some f hc hf] at h
          have hl := cutAt_len hc
          cases hp : parseV f p.2 with
          | ok ys => rw [hp] at h; cases h
          | error j =>
            rw [hp] at h
            obtain rfl := Except.error.inj h
            have := parse_badle f j p.2 hp
            omega
termination_by _ s _ => s.length
decreasing_by omega
theorem prV_prj (r : PR) : (RSh.tuple [(.cell .slice), (.cell (.int .i64)), (.cell (.int .i64))]).prj (prV r) = some r := rfl
theorem evt_one {T : Tabs} {D : List Thing} {L : List Value} {xs : List Evt} (h : AllAt (EvtAt T D) 6 L xs) : L.all Value.oneCell' = true := by
  rw [List.all_eq_true]
  refine h.cells (by decide) fun c x hc => ?_
  obtain ⟨d, rfl, _⟩ := hc
  intro v hv
  simp only [List.mem_cons, List.not_mem_nil, or_false] at hv
  rcases hv with rfl | rfl | rfl | rfl | rfl | rfl <;> rfl
theorem rw_one {T : Tabs} {D : List Thing} {L : List Value} {xs : List Rw} (h : AllAt (RwAt T D) 9 L xs) : L.all Value.oneCell' = true := by
  rw [List.all_eq_true]
  refine h.cells (by decide) fun c x hc => ?_
  obtain ⟨d, e, rfl, _⟩ := hc
  intro v hv
  simp only [List.mem_cons, List.not_mem_nil, or_false] at hv
  rcases hv with rfl | rfl | rfl | rfl | rfl | rfl | rfl | rfl | rfl <;> rfl
theorem rows_small {s : List UInt8} {xs : List Rw} (hs : s.length ≤ 65536) (h : parseV rowV s = .ok xs) : ∀ x ∈ xs, Small x := fun x hx => by
  obtain ⟨one, h1, h2⟩ := (parse_all _ xs s h).2 x hx
  unfold rowV at h2
  split at h2
  · obtain rfl := Option.some.inj h2
    exact small_read one (by omega)
  · cases h2
/-- The events of both, held against one another. -/
theorem joinE {n : Nat} {xs ys : List Evt} {a0 a1 a3 : Option Addr} {L0 L1 L3 : List Value} {X : XT} (hX : X = XX os n) (h0 : RowsAt (tabsOf os) l a0 xs.length 6 L0) (k0 : AllAt (EvtAt (tabsOf os) l) 6 L0 xs) (h1 : RowsAt (tabsOf os) l a1 ys.length 6 L1) (k1 : AllAt (EvtAt (tabsOf os) l) 6 L1 ys)
    (h3 : RowsAt (tabsOf os) l a3 (xs ++ ys).length 6 L3) (k3 : AllAt (EvtAt (tabsOf os) l) 6 L3 (xs ++ ys)) (hx : xs.length < 2 ^ 36) (hy : ys.length < 2 ^ 36) (hn : 2 ≤ n) (hp : Hp (tabsOf os) A l) {go : (Bool × Unit) → M Value} (hgo : ∀ A', Hp (tabsOf os) A' l → Ev (go (false, ())) A' Q) :
    Ev (f6c3 X LL ((a0, xs.length, xs.length), 0, 0, ()) ((a1, ys.length, ys.length), 0, 0, ()) ((a3, (xs ++ ys).length, (xs ++ ys).length), 0, 0, ()) go) A Q := by
  subst hX
  unfold f6c3
  have hxy : (xs ++ ys).length = xs.length + ys.length := List.length_append
  refine ((theirsG h3 k3 (fun t ht => ht) (by omega) hp fun A1 b3 hp => ⟨(b3, (xs ++ ys).length, (xs ++ ys).length), rfl, ?_⟩).mono (show 1 ≤ 2 by decide)).use hn
  refine ((theirsG h0 k0 (fun t ht => .tail _ ht) (by omega) hp fun A2 b0 hp => ⟨(b0, xs.length, xs.length), rfl, ?_⟩).mono (show 1 ≤ 2 by decide)).use hn
  refine ((theirsG h1 k1 (fun t ht => .tail _ (.tail _ ht)) (by omega) hp fun A3 b1 hp => ⟨(b1, ys.length, ys.length), rfl, ?_⟩).mono (show 1 ≤ 2 by decide)).use hn
  refine ev_append_rows (D := [.vec 77 6 false b1 ys.length ys.length L1]) 1 hp rfl (fun t ht => by rw [List.mem_singleton.1 ht]; exact .head _) (.vec (.head _) k1.1) (by decide) (by decide) (by show (2 * (xs.length + ys.length) + 200) * 80 ≤ _; omega) (evt_one k1) fun A4 b9 hp => ?_
  have hp : Hp (tabsOf os) A4 (.vec 77 6 false b1 ys.length ys.length L1 :: .vec 77 6 false b9 (xs.length + ys.length) (xs.length + ys.length) (L0 ++ L1) :: .vec 77 6 false b3 (xs ++ ys).length (xs ++ ys).length L3 :: l) := hp
  rw [← hxy] at hp
  have k01 := k0.append k1
  rw [← hxy]
  refine ((eventsG (c1 := (xs ++ ys).length) (c2 := (xs ++ ys).length) (D := _) (.vec (.tail _ (.tail _ (.head _))) k3.1) (k3.mono fun c x k => k.mono fun t ht => .tail _ (.tail _ (.tail _ ht))) (.vec (.tail _ (.head _)) k01.1) (k01.mono fun c x k => k.mono fun t ht => .tail _ (.tail _ (.tail _ ht))) (fun t ht => ht) (by omega) hp
    fun A5 hp => ⟨true, rfl, ?_⟩).mono (show 1 ≤ 2 by decide)).use hn
  exact hgo A5 hp.tail.tail.tail
theorem joinR {n : Nat} {xs ys : List Rw} {a0 a1 a3 : Option Addr} {L0 L1 L3 : List Value} {X : XT} (hX : X = XX os n) (h0 : RowsAt (tabsOf os) l a0 xs.length 9 L0) (k0 : AllAt (RwAt (tabsOf os) l) 9 L0 xs) (h1 : RowsAt (tabsOf os) l a1 ys.length 9 L1) (k1 : AllAt (RwAt (tabsOf os) l) 9 L1 ys)
    (h3 : RowsAt (tabsOf os) l a3 (xs ++ ys).length 9 L3) (k3 : AllAt (RwAt (tabsOf os) l) 9 L3 (xs ++ ys)) (hsm : ∀ x ∈ xs ++ ys, Small x) (hx : xs.length < 2 ^ 36) (hy : ys.length < 2 ^ 36) (hn : 2 ≤ n) (hp : Hp (tabsOf os) A l) {go : (Bool × Unit) → M Value} (hgo : ∀ A', Hp (tabsOf os) A' l → Ev (go (false, ())) A' Q) :
    Ev (f6c0 X LL ((a0, xs.length, xs.length), 0, 0, ()) ((a1, ys.length, ys.length), 0, 0, ()) ((a3, (xs ++ ys).length, (xs ++ ys).length), 0, 0, ()) go) A Q := by
  subst hX
  unfold f6c0
  have hxy : (xs ++ ys).length = xs.length + ys.length := List.length_append
  refine ((toldG h3 k3 (fun t ht => ht) (by omega) hp fun A1 b3 hp => ⟨(b3, (xs ++ ys).length, (xs ++ ys).length), rfl, ?_⟩).mono (show 1 ≤ 2 by decide)).use hn
  refine ((toldG h0 k0 (fun t ht => .tail _ ht) (by omega) hp fun A2 b0 hp => ⟨(b0, xs.length, xs.length), rfl, ?_⟩).mono (show 1 ≤ 2 by decide)).use hn
  refine ((toldG h1 k1 (fun t ht => .tail _ (.tail _ ht)) (by omega) hp fun A3 b1 hp => ⟨(b1, ys.length, ys.length), rfl, ?_⟩).mono (show 1 ≤ 2 by decide)).use hn
  refine ev_append_rows (D := [.vec 83 9 false b1 ys.length ys.length L1]) 1 hp rfl (fun t ht => by rw [List.mem_singleton.1 ht]; exact .head _) (.vec (.head _) k1.1) (by decide) (by decide) (by show (2 * (xs.length + ys.length) + 200) * 104 ≤ _; omega) (rw_one k1) fun A4 b9 hp => ?_
  have hp : Hp (tabsOf os) A4 (.vec 83 9 false b1 ys.length ys.length L1 :: .vec 83 9 false b9 (xs.length + ys.length) (xs.length + ys.length) (L0 ++ L1) :: .vec 83 9 false b3 (xs ++ ys).length (xs ++ ys).length L3 :: l) := hp
  rw [← hxy] at hp
  have k01 := k0.append k1
  rw [← hxy]
  refine (rowsG (c1 := (xs ++ ys).length) (c2 := (xs ++ ys).length) (D := _) (.vec (.tail _ (.tail _ (.head _))) k3.1) (k3.mono fun c x k => k.mono fun t ht => .tail _ (.tail _ (.tail _ ht))) (.vec (.tail _ (.head _)) k01.1) (k01.mono fun c x k => k.mono fun t ht => .tail _ (.tail _ (.tail _ ht))) (fun t ht => ht) (by omega) (fun x hx => (hsm x hx).count) hp
    fun A5 hp => ⟨true, rfl, ?_⟩).use hn
  exact hgo A5 hp.tail.tail.tail
theorem joinsG (s t : List UInt8) (hs : s.length < 2 ^ 35) (ht : t.length < 2 ^ 35) (hr : Runes os) : Gives (tabsOf os) (XX os) 13 6 [.string (BA s), .string (BA t)] (.bool true) := by
  intro A l Q hp H
  refine t6 (d := 12) (BA s, BA t, ()) fun n hn => ?_
  have hst : (s ++ t).length = s.length + t.length := List.length_append
  have eadd : addW .i64 ((s.length : Nat) : Int) ((t.length : Nat) : Int) = ((s.length + t.length : Nat) : Int) := addW_i64 (by omega)
  unfold f6 f6c6
  refine (parseE s (by omega) hr hp fun A1 E0 r0 hp q0 => ⟨r0, prV_prj r0, ?_⟩).use hn
  refine (parseE t (by omega) hr hp fun A2 E1 r1 hp q1 => ⟨r1, prV_prj r1, ?_⟩).use hn
  refine ev_guard (Nat.ble_eq_true_of_le (by show s.length + t.length ≤ _; omega)) ?_
  rw [BA_append]
  refine (parseE (s ++ t) (by omega) hr hp fun A3 E3 r3 hp q3 => ⟨r3, prV_prj r3, ?_⟩).use hn
  unfold f6c5
  refine ev_join (fun _ A' => Hp (tabsOf os) A' l) ?_ fun go5 hgo5 => ?_
  · -- the rows
    clear q0 q1 q3 hp
    rintro _ A4 hp
    refine ((parseR s (by omega) hr hp fun A1 E0 r0 hp q0 => ⟨r0, prV_prj r0, ?_⟩).mono (show 11 ≤ 12 by decide)).use hn
    refine ((parseR t (by omega) hr hp fun A2 E1 r1 hp q1 => ⟨r1, prV_prj r1, ?_⟩).mono (show 11 ≤ 12 by decide)).use hn
    unfold f6c2
    refine ev_guard (Nat.ble_eq_true_of_le (by show s.length + t.length ≤ _; omega)) ?_
    rw [BA_append]
    refine ((parseR (s ++ t) (by omega) hr hp fun A3 E3 r3 hp q3 => ⟨r3, prV_prj r3, ?_⟩).mono (show 11 ≤ 12 by decide)).use hn
    refine ev_join (fun _ A' => Hp (tabsOf os) A' l) ?_ fun go5 hgo5 => ?_
    · rintro _ A5 hp
      exact ((wakesG hp ⟨true, rfl, ev_pure (H A5 hp)⟩).mono (show 1 ≤ 12 by decide)).use hn
    have hsub : ∀ A', Hp (tabsOf os) A' (E3 ++ (E1 ++ (E0 ++ l))) → Hp (tabsOf os) A' l := fun A' hp => hp.sub ((List.sublist_append_right _ _).trans ((List.sublist_append_right _ _).trans (List.sublist_append_right _ _)))
    refine ev_join (fun j A' => Hp (tabsOf os) A' (E3 ++ (E1 ++ (E0 ++ l))) ∧ j = ((eqB r0.2.2.1 0 && decide (s.length + t.length ≤ 65536)), ())) ?_ fun go14 hgo14 => ?_
    rotate_left
    · refine ev_ite (fun h => ?_) fun h => ?_
      · simp only [BA_size]
        rw [eadd]
        exact hgo14 _ A3 ⟨hp, by rw [h, show (65536 : Int) = ((65536 : Nat) : Int) from rfl, leB_nat]; rfl⟩
      · exact hgo14 _ A3 ⟨hp, by rw [h]; rfl⟩
    rintro _ A5 ⟨hp, rfl⟩
    unfold f6c1
    refine ev_ite (fun h => ?_) fun h => ?_
    rotate_left
    · exact hgo5 _ A5 (hsub A5 hp)
    have h : (eqB r0.2.2.1 0 && decide (s.length + t.length ≤ 65536)) = true := h
    rw [Bool.and_eq_true] at h
    obtain ⟨h0, hle⟩ := h
    have hle := of_decide_eq_true hle
    cases q0 with
    | long h => omega
    | bad h k he => exact absurd h0 (by simp [eqB_eq])
    | ok hl0 xs a0 L0 he0 g0 k0 =>
    have hxl := (parse_all _ xs s he0).1
    refine ev_join (fun j A' => Hp (tabsOf os) A' (E3 ++ (E1 ++ (E0 ++ l))) ∧ j = (false, ())) ?_ fun go16 hgo16 => ?_
    · rintro _ A6 ⟨hp, rfl⟩
      refine ev_f rfl ?_
      refine ev_join (fun j A' => Hp (tabsOf os) A' l ∧ j = (false, ())) ?_ fun go18 hgo18 => ?_
      · rintro _ A7 ⟨hp, rfl⟩
        exact ev_f rfl (hgo5 _ A7 hp)
      have hp := hsub A6 hp
      cases q1 with
      | long h => omega
      | ok hl1 ys a1 L1 he1 g1 k1 => exact ev_f (by simp [eqB_eq]) (hgo18 _ A6 ⟨hp, rfl⟩)
      | bad hl1 k he1 =>
        have hj := parse_join_bad _ he0 he1
        refine ev_t (by simp [eqB_eq]) ?_
        cases q3 with
        | long h => omega
        | ok hl3 zs a3 L3 he3 g3 k3 => rw [hj] at he3; cases he3
        | bad hl3 m he3 =>
          rw [hj] at he3
          obtain rfl := Except.error.inj he3
          have hk := parse_badle _ k t he1
          refine ev_f (by simp [eqB_eq]) (hgo18 _ A6 ⟨hp, ?_⟩)
          simp only
          rw [addW_i64 (by omega), eqB_self]; rfl
    cases q1 with
    | long h => omega
    | bad hl1 k he1 => exact ev_f (by simp [eqB_eq]) (hgo16 _ A5 ⟨hp, rfl⟩)
    | ok hl1 ys a1 L1 he1 g1 k1 =>
      have hyl := (parse_all _ ys t he1).1
      have hj := parse_join_ok _ he0 he1
      refine ev_t (by simp [eqB_eq]) ?_
      cases q3 with
      | long h => omega
      | bad hl3 k he3 => rw [hj] at he3; cases he3
      | ok hl3 zs a3 L3 he3 g3 k3 =>
        rw [hj] at he3
        obtain rfl := Except.ok.inj he3
        refine ev_f (by simp [eqB_eq]) ?_
        exact joinR rfl (g0.mono fun t ht => List.mem_append_right _ (List.mem_append_right _ (List.mem_append_left _ ht))) (k0.mono fun c x k => k.mono fun t ht => List.mem_append_right _ (List.mem_append_right _ (List.mem_append_left _ ht)))
          (g1.mono fun t ht => List.mem_append_right _ (List.mem_append_left _ ht)) (k1.mono fun c x k => k.mono fun t ht => List.mem_append_right _ (List.mem_append_left _ ht))
          (g3.mono fun t ht => List.mem_append_left _ ht) (k3.mono fun c x k => k.mono fun t ht => List.mem_append_left _ ht) (rows_small hl3 hj) (by omega) (by omega) (by omega) hp fun A7 hp => hgo16 _ A7 ⟨hp, rfl⟩
  have hsub : ∀ A', Hp (tabsOf os) A' (E3 ++ (E1 ++ (E0 ++ l))) → Hp (tabsOf os) A' l := fun A' hp => hp.sub ((List.sublist_append_right _ _).trans ((List.sublist_append_right _ _).trans (List.sublist_append_right _ _)))
  refine ev_join (fun j A' => Hp (tabsOf os) A' (E3 ++ (E1 ++ (E0 ++ l))) ∧ j = ((eqB r0.2.2.1 0 && decide (s.length + t.length ≤ 65536)), ())) ?_ fun go14 hgo14 => ?_
  rotate_left
  · refine ev_ite (fun h => ?_) fun h => ?_
    · simp only [BA_size]
      rw [eadd]
      exact hgo14 _ A3 ⟨hp, by rw [h, show (65536 : Int) = ((65536 : Nat) : Int) from rfl, leB_nat]; rfl⟩
    · exact hgo14 _ A3 ⟨hp, by rw [h]; rfl⟩
  rintro _ A5 ⟨hp, rfl⟩
  unfold f6c4
  refine ev_ite (fun h => ?_) fun h => ?_
  rotate_left
  · exact hgo5 _ A5 (hsub A5 hp)
  have h : (eqB r0.2.2.1 0 && decide (s.length + t.length ≤ 65536)) = true := h
  rw [Bool.and_eq_true] at h
  obtain ⟨h0, hle⟩ := h
  have hle := of_decide_eq_true hle
  cases q0 with
  | long h => omega
  | bad h k he => exact absurd h0 (by simp [eqB_eq])
  | ok hl0 xs a0 L0 he0 g0 k0 =>
  have hxl := (parse_all _ xs s he0).1
  refine ev_join (fun j A' => Hp (tabsOf os) A' (E3 ++ (E1 ++ (E0 ++ l))) ∧ j = (false, ())) ?_ fun go16 hgo16 => ?_
  · rintro _ A6 ⟨hp, rfl⟩
    refine ev_f rfl ?_
    refine ev_join (fun j A' => Hp (tabsOf os) A' l ∧ j = (false, ())) ?_ fun go18 hgo18 => ?_
    · rintro _ A7 ⟨hp, rfl⟩
      exact ev_f rfl (hgo5 _ A7 hp)
    have hp := hsub A6 hp
    cases q1 with
    | long h => omega
    | ok hl1 ys a1 L1 he1 g1 k1 => exact ev_f (by simp [eqB_eq]) (hgo18 _ A6 ⟨hp, rfl⟩)
    | bad hl1 k he1 =>
      have hj := parse_join_bad _ he0 he1
      refine ev_t (by simp [eqB_eq]) ?_
      cases q3 with
      | long h => omega
      | ok hl3 zs a3 L3 he3 g3 k3 => rw [hj] at he3; cases he3
      | bad hl3 m he3 =>
        rw [hj] at he3
        obtain rfl := Except.error.inj he3
        have hk := parse_badle _ k t he1
        refine ev_f (by simp [eqB_eq]) (hgo18 _ A6 ⟨hp, ?_⟩)
        simp only
        rw [addW_i64 (by omega), eqB_self]; rfl
  cases q1 with
  | long h => omega
  | bad hl1 k he1 => exact ev_f (by simp [eqB_eq]) (hgo16 _ A5 ⟨hp, rfl⟩)
  | ok hl1 ys a1 L1 he1 g1 k1 =>
    have hyl := (parse_all _ ys t he1).1
    have hj := parse_join_ok _ he0 he1
    refine ev_t (by simp [eqB_eq]) ?_
    cases q3 with
    | long h => omega
    | bad hl3 k he3 => rw [hj] at he3; cases he3
    | ok hl3 zs a3 L3 he3 g3 k3 =>
      rw [hj] at he3
      obtain rfl := Except.ok.inj he3
      refine ev_f (by simp [eqB_eq]) ?_
      exact joinE rfl (g0.mono fun t ht => List.mem_append_right _ (List.mem_append_right _ (List.mem_append_left _ ht))) (k0.mono fun c x k => k.mono fun t ht => List.mem_append_right _ (List.mem_append_right _ (List.mem_append_left _ ht)))
        (g1.mono fun t ht => List.mem_append_right _ (List.mem_append_left _ ht)) (k1.mono fun c x k => k.mono fun t ht => List.mem_append_right _ (List.mem_append_left _ ht))
        (g3.mono fun t ht => List.mem_append_left _ ht) (k3.mono fun c x k => k.mono fun t ht => List.mem_append_left _ ht) (by omega) (by omega) (by omega) hp fun A7 hp => hgo16 _ A7 ⟨hp, rfl⟩
end
end Go.Proofs.YtlcigkdflbfdgaaDoor.sj
