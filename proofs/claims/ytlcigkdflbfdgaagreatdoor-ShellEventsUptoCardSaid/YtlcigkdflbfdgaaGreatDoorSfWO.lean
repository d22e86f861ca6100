/-
  Walks: WH, WI, WJ, WK, WL, WM, WN, WO.
-/
import Derived.Test.YtlcigkdflbfdgaaGreatDoorSfWG
import Derived.Test.YtlcigkdflbfdgaaGreatDoorEng30
import Derived.Test.YtlcigkdflbfdgaaGreatDoorPlain
namespace Go.Proofs.YtlcigkdflbfdgaaGreatDoor.sf
set_option linter.unusedVariables false
open Go Go.Eng Go.Sh
section
variable {os : List (Nat × AObj)} {A : AW} {Q : Value → AW → Prop} {l : List Thing}
theorem wakesG (hp : Hp (tabsOf os) A l) (H : Q (.bool true) A) : Goes (XX os) 1 11 [] A Q := by
  intro n hn
  cases n with
  | zero => omega
  | succ n =>
    refine ⟨.bool true, A, ?_, H⟩
    show iterU _ _ _ _ (n + 1) (.call _ _) A = _
    simp only [iterU]
    rw [sumNum_else (by decide) (by decide), sumTabs_at fun h r p e => (hp.tab h r p (tabs_keep e)).1]
theorem itoaG {n : Int} (hn : -9223372036854775808 ≤ n ∧ n ≤ 9223372036854775807) : Gives (tabsOf os) (XX os) 1 40 [.int .i64 n] (.string (BA (Lib.itoa n))) := by
  intro A l Q hp H m hm
  cases m with
  | zero => omega
  | succ m =>
    refine ⟨_, A, ?_, H A hp⟩
    show iterU _ _ _ _ (m + 1) (.call _ _) A = _
    simp only [iterU]
    rw [sumNum_itoa (decide_eq_true hn) fun h r p e => (hp.tab h r p (tabs_keep e)).1]
theorem atoiG (s : List UInt8) (hs : s.length < 2 ^ 38) (hp : Hp (tabsOf os) A l)
    (H : ∀ A' v, Hp (tabsOf os) A' l → (∀ (ρ : Type) (K : Bool → M ρ), aEql PP 87 false true v .nilIface K = K (!atoiB s)) → Q (.tuple ⟨[.int .i64 (atoiN s), v]⟩) A') : Goes (XX os) 1 74 [.string (BA s)] A Q := by
  intro m hm
  cases m with
  | zero => omega
  | succ m =>
    refine ⟨(atoiEnd 148 s A).1, (atoiEnd 148 s A).2, ?_, ?_⟩
    · show iterU _ _ _ _ (m + 1) (.call _ _) A = _
      simp only [iterU]
      rw [sumNum_atoi (by decide) (by omega) fun h r p e => (hp.tab h r p (tabs_keep e)).1]
    · unfold atoiEnd
      have hu : PP.underlying 87 = _ := Tryz.underlying87
      have e1 : atoiN s = match Lib.atoiAll s with | .ok n => n | .range => Lib.atoiSat s | _ => 0 := rfl
      have e2 : atoiB s = match Lib.atoiAll s with | .ok _ => false | _ => true := rfl
      cases hk : Lib.atoiAll s with
      | ok n =>
        rw [hk] at e1 e2
        rw [e1] at H
        exact H A .nilIface hp fun ρ K => by rw [e2]; simp only [aEql, hu]; rfl
      | range =>
        rw [hk] at e1 e2
        rw [e1] at H
        exact H _ _ (skip_hp hp) fun ρ K => by rw [e2]; simp only [aEql, hu]; rfl
      | _ =>
        rw [hk] at e1 e2
        rw [e1] at H
        exact H _ _ (skip_hp hp) fun ρ K => by rw [e2]; simp only [aEql, hu]; rfl
/-- The next number; what is left; was there none? -/
def numberV (s : List UInt8) : Int × List UInt8 × Bool := (atoiN (plainV s).1, (plainV s).2.1, (plainV s).2.2 || (atoiB (plainV s).1 || !decide (Lib.itoa (atoiN (plainV s).1) = (plainV s).1)))
theorem cutV_len (c : UInt8) (s : List UInt8) : (cutV c s).1.length ≤ s.length ∧ (cutV c s).2.1.length ≤ s.length := by
  unfold cutV
  cases h : cutAt c s with
  | none => exact ⟨Nat.le_refl _, Nat.zero_le _⟩
  | some p =>
    have := cutAt_len h
    have h1 := congrArg List.length (cutAt_some h).1
    rw [List.length_append, List.length_cons] at h1
    simp only
    omega
theorem plainV_len (s : List UInt8) : (plainV s).1.length ≤ s.length ∧ (plainV s).2.1.length ≤ s.length := cutV_len 32 s
theorem numberG {b : Nat} {e : TypeId} {g ish : Bool} (s : List UInt8) (bad : Bool) (hs : s.length < 2 ^ 38) (hp : Hp (tabsOf os) A (rdr b e g ish s bad :: l))
    (H : ∀ A', Hp (tabsOf os) A' (rdr b e g ish (numberV s).2.1 (bad || (numberV s).2.2) :: l) → Q (.int .i64 (numberV s).1) A') : Goes (XX os) 6 52 [.pointer (some ⟨b, 0, none⟩)] A Q := by
  refine t52 (d := 5) (some ⟨b, 0, none⟩, ()) fun n hn => ?_
  simp only [f52, f52c0]
  refine (plainG s bad hs hp fun A1 hp => ⟨_, rfl, ?_⟩).use hn
  have hl := plainV_len s
  unfold numberV at H
  generalize plainV s = q at *
  obtain ⟨q1, q2, q3⟩ := q
  simp only at *
  refine ((atoiG q1 (by omega) hp fun A2 v hp hv => ⟨(atoiN q1, v, ()), rfl, ?_⟩).mono (show 1 ≤ 5 by decide)).use hn
  obtain ⟨c, hc⟩ : ∃ c, c = (atoiB q1 || !decide (Lib.itoa (atoiN q1) = q1)) := ⟨_, rfl⟩
  rw [← hc] at H
  refine ev_join (fun _ A' => Hp (tabsOf os) A' (rdr b e g ish q2 (bad || (q3 || c)) :: l)) ?_ fun go hgo => ?_
  · rintro _ A3 hp
    exact ev_pure (H A3 hp)
  refine ev_join (fun j A' => Hp (tabsOf os) A' (rdr b e g ish q2 (bad || q3) :: l) ∧ j = (c, ())) ?_ fun go2 hgo2 => ?_
  · rintro _ A3 ⟨hp, rfl⟩
    refine ev_ite (fun h => ?_) fun h => ?_
    · have h : c = true := h
      refine ev_store 0 hp rfl rfl (Nat.le_of_ble_eq_true rfl) rfl fun A4 hp => hgo _ A4 ?_
      rw [h, Bool.or_true, Bool.or_true]
      exact hp
    · have h : c = false := h
      refine hgo _ A3 ?_
      rw [h, Bool.or_false]
      exact hp
  rw [hv, Bool.not_not]
  refine ev_ite (fun h => ?_) fun h => ?_
  · exact hgo2 _ A2 ⟨hp, by rw [hc, h]; rfl⟩
  · refine ((itoaG (atoiN_in q1)).mono (show 1 ≤ 5 by decide)).use hn hp rfl fun A3 hp => hgo2 _ A3 ⟨hp, ?_⟩
    rw [BA_seq, hc, h]; rfl
end
end Go.Proofs.YtlcigkdflbfdgaaGreatDoor.sf
namespace Go.Proofs.YtlcigkdflbfdgaaGreatDoor.sf
set_option linter.unusedVariables false
open Go Go.Eng Go.Sh
structure Evt where
  kind : Int
  p : List UInt8
  q : List UInt8
  a : Int
  b : Int
  data : List UInt8
  deriving DecidableEq
abbrev evtC (x : Evt) (d : SL) : List Value := [.int .i64 x.kind, .string (BA x.p), .string (BA x.q), .int .i64 x.a, .int .i64 x.b, .slice d.1 d.2.1 d.2.2]
def putV (is : Bool) (s part : List UInt8) : List UInt8 := if is then s ++ 32 :: part else s
/-- May it be written? -/
noncomputable def notE (e : Evt) : Bool := decide (nameV e.kind = []) || ((!(shapeV e.kind).1 && !decide (e.p = [])) || ((!(shapeV e.kind).2.1 && !decide (e.q = [])) || ((!(shapeV e.kind).2.2.1 && !eqB e.a 0) || ((!(shapeV e.kind).2.2.2.1 && !eqB e.b 0) || (!(shapeV e.kind).2.2.2.2 && ltB 0 ((e.data.length : Nat) : Int))))))
/-- An event's line. -/
noncomputable def lineV (e : Evt) : List UInt8 :=
  putV (shapeV e.kind).2.2.2.2 (putV (shapeV e.kind).2.2.2.1 (putV (shapeV e.kind).2.2.1 (putV (shapeV e.kind).2.1 (putV (shapeV e.kind).1 (nameV e.kind) (word e.p)) (word e.q)) (Lib.itoa e.a)) (Lib.itoa e.b)) (word e.data)
noncomputable def lineO (e : Evt) : Option (List UInt8) := if notE e then none else some (lineV e)
theorem putV_len (is : Bool) (s part : List UInt8) : (putV is s part).length ≤ s.length + part.length + 1 := by
  unfold putV
  cases is
  · simp; omega
  · simp; omega
theorem kindL_small : (kindL.all fun x => decide (x.length ≤ 10)) = true := by kernel_rfl
theorem nameV_len (k : Int) : (nameV k).length ≤ 10 := by
  unfold nameV
  split
  · simp
  · rw [List.getD_eq_getElem?_getD]
    cases h : kindL[k.toNat]? with
    | none => simp
    | some x => exact of_decide_eq_true (List.all_eq_true.1 kindL_small x (List.mem_of_getElem? h))
section
variable {os : List (Nat × AObj)} {A : AW} {Q : Value → AW → Prop} {l : List Thing} {X : XT} {L : LoopI}
theorem veqv_bool (b : Bool) : veqv (.bool b) (.bool b) = true := by cases b <;> rfl
abbrev shpC (y : Bool × Bool × Bool × Bool × Bool) : List Value := [.bool y.1, .bool y.2.1, .bool y.2.2.1, .bool y.2.2.2.1, .bool y.2.2.2.2]
section
variable {b0 b3 t3 t0 : Nat} {y : Bool × Bool × Bool × Bool × Bool} {x : Evt} {d : SL} {go : ((Bool) × Unit) → M (Value)}
theorem line_d (hp : Hp (tabsOf os) A (.cells b3 (shpC y) t3 false (0, 0) false :: .cells b0 (evtC x d) t0 false (0, 0) false :: l)) (h : Ev (go ((!y.2.2.2.2 && ltB 0 ((d.2.1 : Nat) : Int)), ())) A Q) :
    Ev (M.load (.cell .bool) 1 ((Addr.mk b3 0 none).add 4) fun (x : Bool) => M.ite (!x) (M.load (.cell .slice) 1 ((Addr.mk b0 0 none).add 5) fun (y : SL) => go (ltB 0 ((y.2.1 : Nat) : Int), ())) (go (false, ()))) A Q := by
  refine ev_load 0 hp rfl rfl rfl (Nat.le_of_ble_eq_true rfl) (x := y.2.2.2.2) rfl ?_
  cases hy : y.2.2.2.2 with
  | true => rw [hy] at h; exact ev_f rfl h
  | false => rw [hy] at h; exact ev_t rfl (ev_load 1 hp rfl rfl rfl (Nat.le_of_ble_eq_true rfl) (x := d) rfl h)
theorem line6 (hp : Hp (tabsOf os) A (.cells b3 (shpC y) t3 false (0, 0) false :: .cells b0 (evtC x d) t0 false (0, 0) false :: l)) (v : Bool) (h : Ev (go (((v && !eqB x.b 0) || (!y.2.2.2.2 && ltB 0 ((d.2.1 : Nat) : Int))), ())) A Q) :
    Ev (f19c6 X L b0 b3 go v) A Q := by
  unfold f19c6
  cases v with
  | false => exact ev_f rfl (line_d hp h)
  | true =>
    refine ev_t rfl (ev_load 1 hp rfl rfl rfl (Nat.le_of_ble_eq_true rfl) (x := x.b) rfl ?_)
    refine ev_ite (fun h1 => ?_) fun h1 => ?_
    · rw [h1] at h; exact h
    · rw [h1] at h; exact line_d hp h
theorem line_r (hp : Hp (tabsOf os) A (.cells b3 (shpC y) t3 false (0, 0) false :: .cells b0 (evtC x d) t0 false (0, 0) false :: l))
    (h : Ev (go (((!y.2.2.1 && !eqB x.a 0) || ((!y.2.2.2.1 && !eqB x.b 0) || (!y.2.2.2.2 && ltB 0 ((d.2.1 : Nat) : Int)))), ())) A Q) :
    Ev (M.load (.cell .bool) 1 ((Addr.mk b3 0 none).add 2) fun (x2 : Bool) => M.ite (!x2) (M.load (.cell (.int .i64)) 1 ((Addr.mk b0 0 none).add 3) fun (a : Int) => M.ite (!(eqB a 0)) (go (true, ()))
      (M.load (.cell .bool) 1 ((Addr.mk b3 0 none).add 3) fun (x3 : Bool) => f19c6 X L b0 b3 go (!x3)))
      (M.load (.cell .bool) 1 ((Addr.mk b3 0 none).add 3) fun (x3 : Bool) => f19c6 X L b0 b3 go (!x3))) A Q := by
  refine ev_load 0 hp rfl rfl rfl (Nat.le_of_ble_eq_true rfl) (x := y.2.2.1) rfl ?_
  cases hy : y.2.2.1 with
  | true =>
    rw [hy] at h
    exact ev_f rfl (ev_load 0 hp rfl rfl rfl (Nat.le_of_ble_eq_true rfl) (x := y.2.2.2.1) rfl (line6 hp _ h))
  | false =>
    rw [hy] at h
    refine ev_t rfl (ev_load 1 hp rfl rfl rfl (Nat.le_of_ble_eq_true rfl) (x := x.a) rfl ?_)
    refine ev_ite (fun h1 => ?_) fun h1 => ?_
    · rw [h1] at h; exact h
    · rw [h1] at h
      exact ev_load 0 hp rfl rfl rfl (Nat.le_of_ble_eq_true rfl) (x := y.2.2.2.1) rfl (line6 hp _ h)
theorem line11 (hp : Hp (tabsOf os) A (.cells b3 (shpC y) t3 false (0, 0) false :: .cells b0 (evtC x d) t0 false (0, 0) false :: l))
    (h : Ev (go (((!y.2.1 && !decide (x.q = [])) || ((!y.2.2.1 && !eqB x.a 0) || ((!y.2.2.2.1 && !eqB x.b 0) || (!y.2.2.2.2 && ltB 0 ((d.2.1 : Nat) : Int))))), ())) A Q) :
    Ev (f19c11 X L b0 b3 go) A Q := by
  unfold f19c11
  refine ev_load 0 hp rfl rfl rfl (Nat.le_of_ble_eq_true rfl) (x := y.2.1) rfl ?_
  cases hy : y.2.1 with
  | true =>
    rw [hy] at h
    exact ev_f rfl (line_r (X := X) (L := L) hp h)
  | false =>
    rw [hy] at h
    refine ev_t rfl ?_
    unfold f19c8
    refine ev_load 1 hp rfl rfl rfl (Nat.le_of_ble_eq_true rfl) (x := BA x.q) rfl ?_
    rw [show st0 = BA [] from rfl, BA_seq]
    refine ev_ite (fun h1 => ?_) fun h1 => ?_
    · rw [h1] at h; exact h
    · rw [h1] at h; exact line_r (X := X) (L := L) hp h
end
theorem lineG (x : Evt) (d : SL) (hd : d.2.1 = x.data.length) {D : List Thing} (hsee : SeesB (tabsOf os) D d.1 d.2.1 x.data) (hD : ∀ t ∈ D, t ∈ l) (hr : Runes os) (h1 : x.p.length < 2 ^ 36) (h2 : x.q.length < 2 ^ 36) (h3 : x.data.length < 2 ^ 36)
    (ha : -9223372036854775808 ≤ x.a ∧ x.a ≤ 9223372036854775807) (hb : -9223372036854775808 ≤ x.b ∧ x.b ≤ 9223372036854775807) (hp : Hp (tabsOf os) A l)
    (H : ∀ A', Hp (tabsOf os) A' l → Q (.tuple ⟨[.string (BA ((lineO x).getD [])), .bool (lineO x).isSome]⟩) A') : Goes (XX os) 7 19 [.agg ⟨evtC x d⟩] A Q := by
  refine t19 (d := 6) ((x.kind, BA x.p, BA x.q, x.a, x.b, d, ()), ()) fun n hn => ?_
  unfold f19
  refine ev_new hp fun b0 A1 hp => ?_
  unfold f19c19
  refine ev_load 0 hp rfl rfl rfl (Nat.le_of_ble_eq_true rfl) (x := x.kind) rfl ?_
  refine ((shapeG x.kind).mono (show 1 ≤ 6 by decide)).use hn hp (x := ((shapeV x.kind).1, (shapeV x.kind).2.1, (shapeV x.kind).2.2.1, (shapeV x.kind).2.2.2.1, (shapeV x.kind).2.2.2.2, ())) rfl fun A2 hp => ?_
  refine ev_new hp fun b3 A3 hp => ?_
  refine ev_store 0 hp rfl rfl (Nat.le_of_ble_eq_true rfl) rfl fun A4 hp => ?_
  obtain ⟨t3, t0, hp⟩ : ∃ t3 t0, Hp (tabsOf os) A4 (.cells b3 (shpC (shapeV x.kind)) t3 false (0, 0) false :: .cells b0 (evtC x d) t0 false (0, 0) false :: l) := ⟨_, _, hp⟩
  unfold f19c18
  obtain ⟨y, hy⟩ : ∃ y, y = shapeV x.kind := ⟨_, rfl⟩
  have hlo : lineO x = if notE x then none else some (putV y.2.2.2.2 (putV y.2.2.2.1 (putV y.2.2.1 (putV y.2.1 (putV y.1 (nameV x.kind) (word x.p)) (word x.q)) (Lib.itoa x.a)) (Lib.itoa x.b)) (word x.data)) := by
    rw [hy]; rfl
  have hne : notE x = (decide (nameV x.kind = []) || ((!y.1 && !decide (x.p = [])) || ((!y.2.1 && !decide (x.q = [])) || ((!y.2.2.1 && !eqB x.a 0) || ((!y.2.2.2.1 && !eqB x.b 0) || (!y.2.2.2.2 && ltB 0 ((d.2.1 : Nat) : Int))))))) := by
    rw [hy, hd]; rfl
  rw [← hy] at hp
  clear hy
  refine ev_join (fun j A' => Hp (tabsOf os) A' (.cells b3 (shpC y) t3 false (0, 0) false :: .cells b0 (evtC x d) t0 false (0, 0) false :: l) ∧ j = (notE x, ())) ?_ fun go hgo => ?_
  rotate_left
  · refine ev_load 1 hp rfl rfl rfl (Nat.le_of_ble_eq_true rfl) (x := x.kind) rfl ?_
    refine (nameG x.kind).use hn hp rfl fun A5 hp => ?_
    have h := hgo (notE x, ()) A5 ⟨hp, rfl⟩
    rw [hne] at h
    rw [show st0 = BA [] from rfl, BA_seq]
    refine ev_ite (fun h1 => ?_) fun h1 => ?_
    · rw [h1] at h; exact h
    rw [h1] at h
    refine ev_load 0 hp rfl rfl rfl (Nat.le_of_ble_eq_true rfl) (x := y.1) rfl ?_
    cases hy1 : y.1 with
    | true =>
      rw [hy1] at h
      exact ev_f rfl (line11 (X := XX os n) (L := LL) hp h)
    | false =>
      rw [hy1] at h
      refine ev_t rfl (ev_load 1 hp rfl rfl rfl (Nat.le_of_ble_eq_true rfl) (x := BA x.p) rfl ?_)
      rw [BA_seq]
      refine ev_ite (fun h1 => ?_) fun h1 => ?_
      · rw [h1] at h; exact h
      · rw [h1] at h; exact line11 (X := XX os n) (L := LL) hp h
  rintro _ A5 ⟨hp, rfl⟩
  unfold f19c5
  refine ev_ite (fun h => ?_) fun h => ?_
  · have h : notE x = true := h
    rw [hlo, if_pos h] at H
    rw [show st0 = BA [] from rfl]
    exact ev_pure (H A5 hp.tail.tail)
  have h : notE x = false := h
  rw [hlo, if_neg (by rw [h]; decide)] at H
  refine ev_load 1 hp rfl rfl rfl (Nat.le_of_ble_eq_true rfl) (x := x.kind) rfl ?_
  refine (nameG x.kind).use hn hp rfl fun A6 hp => ?_
  refine ev_new hp fun b8 A7 hp => ?_
  refine ev_store 0 hp rfl rfl (Nat.le_of_ble_eq_true rfl) rfl fun A8 hp => ?_
  refine ev_load 1 hp rfl rfl rfl (Nat.le_of_ble_eq_true rfl) (x := y.1) rfl ?_
  refine ev_load 2 hp rfl rfl rfl (Nat.le_of_ble_eq_true rfl) (x := BA x.p) rfl ?_
  have w1 := word_le x.p
  have w2 := word_le x.q
  have w3 := word_le x.data
  have i1 := itoa_len ha
  have i2 := itoa_len hb
  have n1 := nameV_len x.kind
  have p1 := putV_len y.1 (nameV x.kind) (word x.p)
  have p2 := putV_len y.2.1 (putV y.1 (nameV x.kind) (word x.p)) (word x.q)
  have p3 := putV_len y.2.2.1 (putV y.2.1 (putV y.1 (nameV x.kind) (word x.p)) (word x.q)) (Lib.itoa x.a)
  have p4 := putV_len y.2.2.2.1 (putV y.2.2.1 (putV y.2.1 (putV y.1 (nameV x.kind) (word x.p)) (word x.q)) (Lib.itoa x.a)) (Lib.itoa x.b)
  unfold f19c4
  refine ((quoteGG x.p (by omega) hr).mono (show 4 ≤ 6 by decide)).use hn hp rfl fun A9 hp => ?_
  refine ev_load 1 hp rfl rfl rfl (Nat.le_of_ble_eq_true rfl) (x := y.1) rfl (ev_cond_t (veqv_bool _) ?_)
  refine ((putG y.1 _ (word x.p) (by omega) hp fun A10 hp => ⟨(), rfl, ?_⟩).mono (show 1 ≤ 6 by decide)).use hn
  refine ev_load 1 hp rfl rfl rfl (Nat.le_of_ble_eq_true rfl) (x := y.2.1) rfl ?_
  refine ev_load 2 hp rfl rfl rfl (Nat.le_of_ble_eq_true rfl) (x := BA x.q) rfl ?_
  unfold f19c3
  refine ((quoteGG x.q (by omega) hr).mono (show 4 ≤ 6 by decide)).use hn hp rfl fun A11 hp => ?_
  refine ev_load 1 hp rfl rfl rfl (Nat.le_of_ble_eq_true rfl) (x := y.2.1) rfl (ev_cond_t (veqv_bool _) ?_)
  refine ((putG y.2.1 (putV y.1 (nameV x.kind) (word x.p)) (word x.q) (by omega) hp fun A12 hp => ⟨(), rfl, ?_⟩).mono (show 1 ≤ 6 by decide)).use hn
  refine ev_load 1 hp rfl rfl rfl (Nat.le_of_ble_eq_true rfl) (x := y.2.2.1) rfl ?_
  refine ev_load 2 hp rfl rfl rfl (Nat.le_of_ble_eq_true rfl) (x := x.a) rfl ?_
  unfold f19c2
  refine ((itoaG ha).mono (show 1 ≤ 6 by decide)).use hn hp rfl fun A13 hp => ?_
  refine ev_load 1 hp rfl rfl rfl (Nat.le_of_ble_eq_true rfl) (x := y.2.2.1) rfl (ev_cond_t (veqv_bool _) ?_)
  refine ((putG y.2.2.1 (putV y.2.1 (putV y.1 (nameV x.kind) (word x.p)) (word x.q)) (Lib.itoa x.a) (by omega) hp fun A14 hp => ⟨(), rfl, ?_⟩).mono (show 1 ≤ 6 by decide)).use hn
  refine ev_load 1 hp rfl rfl rfl (Nat.le_of_ble_eq_true rfl) (x := y.2.2.2.1) rfl ?_
  refine ev_load 2 hp rfl rfl rfl (Nat.le_of_ble_eq_true rfl) (x := x.b) rfl ?_
  unfold f19c1
  refine ((itoaG hb).mono (show 1 ≤ 6 by decide)).use hn hp rfl fun A15 hp => ?_
  refine ev_load 1 hp rfl rfl rfl (Nat.le_of_ble_eq_true rfl) (x := y.2.2.2.1) rfl (ev_cond_t (veqv_bool _) ?_)
  refine ((putG y.2.2.2.1 (putV y.2.2.1 (putV y.2.1 (putV y.1 (nameV x.kind) (word x.p)) (word x.q)) (Lib.itoa x.a)) (Lib.itoa x.b) (by omega) hp fun A16 hp => ⟨(), rfl, ?_⟩).mono (show 1 ≤ 6 by decide)).use hn
  refine ev_load 1 hp rfl rfl rfl (Nat.le_of_ble_eq_true rfl) (x := y.2.2.2.2) rfl ?_
  refine ev_load 2 hp rfl rfl rfl (Nat.le_of_ble_eq_true rfl) (x := d) rfl ?_
  refine ev_see hp (fun t ht => .tail _ (.tail _ (.tail _ (hD t ht)))) hsee ?_
  unfold f19c0
  refine ev_load 1 hp rfl rfl rfl (Nat.le_of_ble_eq_true rfl) (x := y.2.2.2.2) rfl (ev_cond_t (veqv_bool _) ?_)
  refine ((quoteGG x.data (by omega) hr).mono (show 4 ≤ 6 by decide)).use hn hp rfl fun A17 hp => ?_
  refine ev_load 1 hp rfl rfl rfl (Nat.le_of_ble_eq_true rfl) (x := y.2.2.2.2) rfl (ev_cond_t (veqv_bool _) ?_)
  refine ((putG y.2.2.2.2 (putV y.2.2.2.1 (putV y.2.2.1 (putV y.2.1 (putV y.1 (nameV x.kind) (word x.p)) (word x.q)) (Lib.itoa x.a)) (Lib.itoa x.b)) (word x.data) (by omega) hp fun A18 hp => ⟨(), rfl, ?_⟩).mono (show 1 ≤ 6 by decide)).use hn
  refine ev_load 0 hp rfl rfl rfl (Nat.le_of_ble_eq_true rfl) rfl ?_
  exact ev_pure (H A18 hp.tail.tail.tail)
end
end Go.Proofs.YtlcigkdflbfdgaaGreatDoor.sf
namespace Go.Proofs.YtlcigkdflbfdgaaGreatDoor.sf
set_option linter.unusedVariables false
open Go Go.Eng Go.Sh
section
variable {os : List (Nat × AObj)} {A : AW} {Q : Value → AW → Prop} {m : List Thing}
abbrev St := Evt × List UInt8 × Bool
def stepP (is : Bool) (st : St) : St := if is && !st.2.2 then ({ st.1 with p := (wordV st.2.1).1 }, (wordV st.2.1).2.1, st.2.2 || (wordV st.2.1).2.2) else st
def stepQ (is : Bool) (st : St) : St := if is && !st.2.2 then ({ st.1 with q := (wordV st.2.1).1 }, (wordV st.2.1).2.1, st.2.2 || (wordV st.2.1).2.2) else st
def stepA (is : Bool) (st : St) : St := if is && !st.2.2 then ({ st.1 with a := (numberV st.2.1).1 }, (numberV st.2.1).2.1, st.2.2 || (numberV st.2.1).2.2) else st
def stepB (is : Bool) (st : St) : St := if is && !st.2.2 then ({ st.1 with b := (numberV st.2.1).1 }, (numberV st.2.1).2.1, st.2.2 || (numberV st.2.1).2.2) else st
def stepD (is : Bool) (st : St) : St := if is && !st.2.2 then ({ st.1 with data := (wordV st.2.1).1 }, (wordV st.2.1).2.1, st.2.2 || (wordV st.2.1).2.2) else st
/-- A reader, an event, the reader's box. -/
abbrev evs (b1 b2 b5 t1 t2 t5 : Nat) (st : St) (d : SL) (m : List Thing) : List Thing := rdr b1 t1 false false st.2.1 st.2.2 :: .cells b5 (evtC st.1 d) t5 false (0, 0) false :: .cells b2 [.pointer (some ⟨b1, 0, none⟩)] t2 false (0, 0) false :: m
theorem take51 {b1 b2 b5 t1 t2 t5 : Nat} (fn : Nat) (cap : List Value) (hcF : ∀ (I : Interp) (ρ : Type) (K : Value → M ρ), callF CC I fn cap K = M.callS (.tuple []) (I.call (.call fn cap)) fun x => K ((RSh.tuple []).inj x)) (is : Bool) (st : St) (d : SL)
    (hp : Hp (tabsOf os) A (evs b1 b2 b5 t1 t2 t5 st d m)) (h0 : (is && !st.2.2) = false → ∀ A', Hp (tabsOf os) A' (evs b1 b2 b5 t1 t2 t5 st d m) → Q (.tuple ⟨[]⟩) A')
    (h1 : (is && !st.2.2) = true → ∀ A', Hp (tabsOf os) A' (evs b1 b2 b5 t1 t2 t5 st d m) → Goes (XX os) 8 fn cap A' (fun v A2 => v = .tuple ⟨[]⟩ ∧ Q (.tuple ⟨[]⟩) A2)) :
    Goes (XX os) 9 47 [.bool is, .func (.func fn) ⟨[]⟩ ⟨cap⟩, .pointer (some ⟨b2, 0, none⟩)] A Q := by
  refine t47 (d := 8) (is, .func (.func fn) ⟨[]⟩ ⟨cap⟩, some ⟨b2, 0, none⟩, ()) fun n hn => ?_
  simp only [f47]
  refine ev_join (fun j A' => Hp (tabsOf os) A' (evs b1 b2 b5 t1 t2 t5 st d m) ∧ j = ((is && !st.2.2), ())) ?_ fun go hgo => ?_
  · rintro _ A2 ⟨hp, rfl⟩
    refine ev_ite (fun h => ?_) fun h => ?_
    · have e := hcF ⟨XX os n, LL⟩ Value (fun w => M.need ((RSh.tuple []).prj w) fun (_ : Unit) => M.pure (.tuple ⟨[]⟩))
      have key : Ev (callF CC ⟨XX os n, LL⟩ fn cap fun w => M.need ((RSh.tuple []).prj w) fun (_ : Unit) => M.pure (.tuple ⟨[]⟩)) A2 Q := by
        rw [e]
        refine Goes.use (d := 8) (fun k hk => Ev.mono (h1 h A2 hp k hk) ?_) hn
        rintro v A3 ⟨rfl, hq⟩
        exact ⟨(), rfl, ev_pure hq⟩
      simp only [callV, List.nil_append]
      exact key
    · exact ev_pure (h0 h A2 hp)
  · cases is with
    | false => exact ev_f rfl (hgo _ A ⟨hp, rfl⟩)
    | true =>
      refine ev_t rfl ?_
      refine ev_load 2 hp rfl rfl rfl (Nat.le_of_ble_eq_true rfl) (x := some ⟨b1, 0, none⟩) rfl ?_
      refine ev_load 0 hp rfl rfl rfl (Nat.le_of_ble_eq_true rfl) (x := st.2.2) rfl ?_
      exact hgo _ A ⟨hp, rfl⟩
theorem cF2 (cap : List Value) (I : Interp) (ρ : Type) (K : Value → M ρ) : callF CC I 48 cap K = M.callS (.tuple []) (I.call (.call 48 cap)) fun x => K ((RSh.tuple []).inj x) := by kernel_rfl
theorem cF3 (cap : List Value) (I : Interp) (ρ : Type) (K : Value → M ρ) : callF CC I 50 cap K = M.callS (.tuple []) (I.call (.call 50 cap)) fun x => K ((RSh.tuple []).inj x) := by kernel_rfl
theorem cF4 (cap : List Value) (I : Interp) (ρ : Type) (K : Value → M ρ) : callF CC I 51 cap K = M.callS (.tuple []) (I.call (.call 51 cap)) fun x => K ((RSh.tuple []).inj x) := by kernel_rfl
theorem cF5 (cap : List Value) (I : Interp) (ρ : Type) (K : Value → M ρ) : callF CC I 53 cap K = M.callS (.tuple []) (I.call (.call 53 cap)) fun x => K ((RSh.tuple []).inj x) := by kernel_rfl
theorem cF6 (cap : List Value) (I : Interp) (ρ : Type) (K : Value → M ρ) : callF CC I 54 cap K = M.callS (.tuple []) (I.call (.call 54 cap)) fun x => K ((RSh.tuple []).inj x) := by kernel_rfl
section
variable {b1 b2 b5 t1 t2 t5 : Nat} (is : Bool) (st : St) (d : SL) (hs : st.2.1.length < 2 ^ 36) (hp : Hp (tabsOf os) A (evs b1 b2 b5 t1 t2 t5 st d m))
include hs hp
theorem takeP (hr : Runes os) (H : ∀ A', Hp (tabsOf os) A' (evs b1 b2 b5 t1 t2 t5 (stepP is st) d m) → Q (.tuple ⟨[]⟩) A') :
    Goes (XX os) 9 47 [.bool is, .func (.func 48) ⟨[]⟩ ⟨[.pointer (some ⟨b2, 0, none⟩), .pointer (some ⟨b5, 0, none⟩)]⟩, .pointer (some ⟨b2, 0, none⟩)] A Q := by
  refine take51 _ _ (cF2 _) is st d hp (fun h A1 hp => H A1 ?_) fun h A1 hp => ?_
  · unfold stepP; rw [if_neg (by rw [h]; decide)]; exact hp
  refine Goes.mono (d := 7) ?_ (by decide)
  refine t48 (d := 6) (some ⟨b2, 0, none⟩, some ⟨b5, 0, none⟩, ()) fun n hn => ?_
  simp only [f48]
  refine ev_load 2 hp rfl rfl rfl (Nat.le_of_ble_eq_true rfl) (x := some ⟨b1, 0, none⟩) rfl ?_
  refine (wordG _ _ hs hr hp fun A2 hp => ⟨_, rfl, ?_⟩).use hn
  refine ev_store 1 hp rfl rfl (Nat.le_of_ble_eq_true rfl) rfl fun A3 hp => ev_pure ⟨rfl, H A3 ?_⟩
  unfold stepP; rw [if_pos h]; exact hp
theorem takeQ (hr : Runes os) (H : ∀ A', Hp (tabsOf os) A' (evs b1 b2 b5 t1 t2 t5 (stepQ is st) d m) → Q (.tuple ⟨[]⟩) A') :
    Goes (XX os) 9 47 [.bool is, .func (.func 50) ⟨[]⟩ ⟨[.pointer (some ⟨b2, 0, none⟩), .pointer (some ⟨b5, 0, none⟩)]⟩, .pointer (some ⟨b2, 0, none⟩)] A Q := by
  refine take51 _ _ (cF3 _) is st d hp (fun h A1 hp => H A1 ?_) fun h A1 hp => ?_
  · unfold stepQ; rw [if_neg (by rw [h]; decide)]; exact hp
  refine Goes.mono (d := 7) ?_ (by decide)
  refine t50 (d := 6) (some ⟨b2, 0, none⟩, some ⟨b5, 0, none⟩, ()) fun n hn => ?_
  simp only [f50]
  refine ev_load 2 hp rfl rfl rfl (Nat.le_of_ble_eq_true rfl) (x := some ⟨b1, 0, none⟩) rfl ?_
  refine (wordG _ _ hs hr hp fun A2 hp => ⟨_, rfl, ?_⟩).use hn
  refine ev_store 1 hp rfl rfl (Nat.le_of_ble_eq_true rfl) rfl fun A3 hp => ev_pure ⟨rfl, H A3 ?_⟩
  unfold stepQ; rw [if_pos h]; exact hp
theorem takeA (H : ∀ A', Hp (tabsOf os) A' (evs b1 b2 b5 t1 t2 t5 (stepA is st) d m) → Q (.tuple ⟨[]⟩) A') :
    Goes (XX os) 9 47 [.bool is, .func (.func 51) ⟨[]⟩ ⟨[.pointer (some ⟨b2, 0, none⟩), .pointer (some ⟨b5, 0, none⟩)]⟩, .pointer (some ⟨b2, 0, none⟩)] A Q := by
  refine take51 _ _ (cF4 _) is st d hp (fun h A1 hp => H A1 ?_) fun h A1 hp => ?_
  · unfold stepA; rw [if_neg (by rw [h]; decide)]; exact hp
  refine Goes.mono (d := 7) ?_ (by decide)
  refine t51 (d := 6) (some ⟨b2, 0, none⟩, some ⟨b5, 0, none⟩, ()) fun n hn => ?_
  simp only [f51]
  refine ev_load 2 hp rfl rfl rfl (Nat.le_of_ble_eq_true rfl) (x := some ⟨b1, 0, none⟩) rfl ?_
  refine (numberG _ _ (by omega) hp fun A2 hp => ⟨_, rfl, ?_⟩).use hn
  refine ev_store 1 hp rfl rfl (Nat.le_of_ble_eq_true rfl) rfl fun A3 hp => ev_pure ⟨rfl, H A3 ?_⟩
  unfold stepA; rw [if_pos h]; exact hp
theorem takeB (H : ∀ A', Hp (tabsOf os) A' (evs b1 b2 b5 t1 t2 t5 (stepB is st) d m) → Q (.tuple ⟨[]⟩) A') :
    Goes (XX os) 9 47 [.bool is, .func (.func 53) ⟨[]⟩ ⟨[.pointer (some ⟨b2, 0, none⟩), .pointer (some ⟨b5, 0, none⟩)]⟩, .pointer (some ⟨b2, 0, none⟩)] A Q := by
  refine take51 _ _ (cF5 _) is st d hp (fun h A1 hp => H A1 ?_) fun h A1 hp => ?_
  · unfold stepB; rw [if_neg (by rw [h]; decide)]; exact hp
  refine Goes.mono (d := 7) ?_ (by decide)
  refine t53 (d := 6) (some ⟨b2, 0, none⟩, some ⟨b5, 0, none⟩, ()) fun n hn => ?_
  simp only [f53]
  refine ev_load 2 hp rfl rfl rfl (Nat.le_of_ble_eq_true rfl) (x := some ⟨b1, 0, none⟩) rfl ?_
  refine (numberG _ _ (by omega) hp fun A2 hp => ⟨_, rfl, ?_⟩).use hn
  refine ev_store 1 hp rfl rfl (Nat.le_of_ble_eq_true rfl) rfl fun A3 hp => ev_pure ⟨rfl, H A3 ?_⟩
  unfold stepB; rw [if_pos h]; exact hp
theorem takeD (hr : Runes os) (hd : d = (none, 0, 0)) (hx : st.1.data = []) (H : ∀ A' D d', Hp (tabsOf os) A' (evs b1 b2 b5 t1 t2 t5 (stepD is st) d' (D ++ m)) → SeesB (tabsOf os) D d'.1 d'.2.1 (stepD is st).1.data → Q (.tuple ⟨[]⟩) A') :
    Goes (XX os) 9 47 [.bool is, .func (.func 54) ⟨[]⟩ ⟨[.pointer (some ⟨b2, 0, none⟩), .pointer (some ⟨b5, 0, none⟩)]⟩, .pointer (some ⟨b2, 0, none⟩)] A Q := by
  refine take51 _ _ (cF6 _) is st d hp (fun h A1 hp => H A1 [] (none, 0, 0) ?_ ?_) fun h A1 hp => ?_
  · unfold stepD; rw [if_neg (by rw [h]; decide), ← hd]; exact hp
  · unfold stepD; rw [if_neg (by rw [h]; decide), hx]; exact .nil
  refine Goes.mono (d := 7) ?_ (by decide)
  refine t54 (d := 6) (some ⟨b2, 0, none⟩, some ⟨b5, 0, none⟩, ()) fun n hn => ?_
  simp only [f54]
  refine ev_load 2 hp rfl rfl rfl (Nat.le_of_ble_eq_true rfl) (x := some ⟨b1, 0, none⟩) rfl ?_
  refine (wordG _ _ hs hr hp fun A2 hp => ⟨_, rfl, ?_⟩).use hn
  refine ev_ofStr hp fun bd A3 hp => ?_
  refine ev_store 2 hp rfl rfl (Nat.le_of_ble_eq_true rfl) rfl fun A4 hp => ev_pure ⟨rfl, ?_⟩
  have hp := ((hp.front 3 rfl).front 3 rfl).front 3 rfl
  refine H A4 [.vec 5 1 true (some ⟨bd, 0, none⟩) (wordV st.2.1).1.length (wordV st.2.1).1.length (u8s (wordV st.2.1).1)] (some ⟨bd, 0, none⟩, (wordV st.2.1).1.length, (wordV st.2.1).1.length) ?_ ?_
  · unfold stepD; rw [if_pos h]; exact hp
  · unfold stepD; rw [if_pos h]; exact .vec (List.mem_singleton.2 rfl) rfl
end
end
end Go.Proofs.YtlcigkdflbfdgaaGreatDoor.sf
namespace Go.Proofs.YtlcigkdflbfdgaaGreatDoor.sf
set_option linter.unusedVariables false
open Go Go.Eng Go.Sh
section
/-- What was read so far is no longer than the line. -/
structure Fine (N : Nat) (st : St) : Prop where
  rest : st.2.1.length ≤ N
  p : st.1.p.length ≤ N
  q : st.1.q.length ≤ N
  data : st.1.data.length ≤ N
  a : -9223372036854775808 ≤ st.1.a ∧ st.1.a ≤ 9223372036854775807
  b : -9223372036854775808 ≤ st.1.b ∧ st.1.b ≤ 9223372036854775807
theorem wordV_len (s : List UInt8) : (wordV s).1.length ≤ s.length ∧ (wordV s).2.1.length ≤ s.length := by
  unfold wordV
  cases h : unqG s with
  | none => simp
  | some x =>
    obtain ⟨t, r⟩ := x
    have h1 := unqG_some h
    have h2 := congrArg List.length h1
    have h3 := inside_len t
    have h4 : (word t).length = (inside t).length + 2 := by unfold word; simp
    rw [List.length_append] at h2
    simp only
    split
    · simp; omega
    · split
      · simp; omega
      · simp; omega
theorem numberV_len (s : List UInt8) : (numberV s).2.1.length ≤ s.length := (plainV_len s).2
theorem fineP {N : Nat} {st : St} (h : Fine N st) (is : Bool) : Fine N (stepP is st) := by
  unfold stepP
  split
  · have := wordV_len st.2.1
    have h0 := h.rest
    exact ⟨by show (wordV st.2.1).2.1.length ≤ N; omega, by show (wordV st.2.1).1.length ≤ N; omega, h.q, h.data, h.a, h.b⟩
  · exact h
theorem fineQ {N : Nat} {st : St} (h : Fine N st) (is : Bool) : Fine N (stepQ is st) := by
  unfold stepQ
  split
  · have := wordV_len st.2.1
    have h0 := h.rest
    exact ⟨by show (wordV st.2.1).2.1.length ≤ N; omega, h.p, by show (wordV st.2.1).1.length ≤ N; omega, h.data, h.a, h.b⟩
  · exact h
theorem fineA {N : Nat} {st : St} (h : Fine N st) (is : Bool) : Fine N (stepA is st) := by
  unfold stepA
  split
  · have := numberV_len st.2.1
    have h0 := h.rest
    exact ⟨by show (numberV st.2.1).2.1.length ≤ N; omega, h.p, h.q, h.data, atoiN_in _, h.b⟩
  · exact h
theorem fineB {N : Nat} {st : St} (h : Fine N st) (is : Bool) : Fine N (stepB is st) := by
  unfold stepB
  split
  · have := numberV_len st.2.1
    have h0 := h.rest
    exact ⟨by show (numberV st.2.1).2.1.length ≤ N; omega, h.p, h.q, h.data, h.a, atoiN_in _⟩
  · exact h
theorem fineD {N : Nat} {st : St} (h : Fine N st) (is : Bool) : Fine N (stepD is st) := by
  unfold stepD
  split
  · have := wordV_len st.2.1
    have h0 := h.rest
    exact ⟨by show (wordV st.2.1).2.1.length ≤ N; omega, h.p, h.q, by show (wordV st.2.1).1.length ≤ N; omega, h.a, h.b⟩
  · exact h
noncomputable def readE0 (s : List UInt8) : St := (⟨(kindV s).1, [], [], 0, 0, []⟩, (kindV s).2.1, (kindV s).2.2)
theorem fine0 (s : List UInt8) : Fine s.length (readE0 s) := ⟨(plainV_len s).2, by simp [readE0], by simp [readE0], by simp [readE0], by simp [readE0], by simp [readE0]⟩
noncomputable def readE (s : List UInt8) : St :=
  stepD (shapeV (kindV s).1).2.2.2.2 (stepB (shapeV (kindV s).1).2.2.2.1 (stepA (shapeV (kindV s).1).2.2.1 (stepQ (shapeV (kindV s).1).2.1 (stepP (shapeV (kindV s).1).1 (readE0 s)))))
theorem fineE (s : List UInt8) : Fine s.length (readE s) := fineD (fineB (fineA (fineQ (fineP (fine0 s) _) _) _) _) _
/-- The event of a line, if it is one's. -/
noncomputable def eventB (s : List UInt8) : Bool := !(readE s).2.2 && (decide ((readE s).2.1 = []) && ((lineO (readE s).1).isSome && decide ((lineO (readE s).1).getD [] = s)))
noncomputable def eventV (s : List UInt8) : Option Evt := if eventB s then some (readE s).1 else none
theorem data_keep {is : Bool} {st : St} : (stepP is st).1.data = st.1.data ∧ (stepQ is st).1.data = st.1.data ∧ (stepA is st).1.data = st.1.data ∧ (stepB is st).1.data = st.1.data := by
  unfold stepP stepQ stepA stepB
  cases is && !st.2.2 <;> exact ⟨rfl, rfl, rfl, rfl⟩
end
section
variable {os : List (Nat × AObj)} {A : AW} {Q : Value → AW → Prop} {l : List Thing}
theorem eventG (s : List UInt8) (hs : s.length < 2 ^ 36) (hr : Runes os) (hp : Hp (tabsOf os) A l)
    (H : ∀ A' D d, Hp (tabsOf os) A' (D ++ l) → SeesB (tabsOf os) D d.1 d.2.1 (readE s).1.data → Q (.tuple ⟨[.agg ⟨evtC (readE s).1 d⟩, .bool (eventB s)]⟩) A') : Goes (XX os) 10 22 [.string (BA s)] A Q := by
  refine t22 (d := 9) (BA s, ()) fun n hn => ?_
  unfold f22
  refine ev_new hp fun b0 A1 hp => ?_
  unfold f22c8
  refine ev_new hp fun b1 A2 hp => ?_
  refine ev_new hp fun b2 A3 hp => ?_
  refine ev_store 0 hp rfl rfl (Nat.le_of_ble_eq_true rfl) rfl fun A4 hp => ?_
  refine ev_load 0 hp rfl rfl rfl (Nat.le_of_ble_eq_true rfl) (x := some ⟨b1, 0, none⟩) rfl ?_
  have hp := hp.front 1 rfl
  refine ((kindG s false (by omega) hp fun A5 hp => ⟨_, rfl, ?_⟩).mono (show 6 ≤ 9 by decide)).use hn
  refine ev_new hp fun b5 A6 hp => ?_
  unfold f22c7
  refine ev_store 0 hp rfl rfl (Nat.le_of_ble_eq_true rfl) rfl fun A7 hp => ?_
  refine ev_load 0 hp rfl rfl rfl (Nat.le_of_ble_eq_true rfl) (x := (kindV s).1) rfl ?_
  refine ((shapeG (kindV s).1).mono (show 1 ≤ 9 by decide)).use hn hp (x := ((shapeV (kindV s).1).1, (shapeV (kindV s).1).2.1, (shapeV (kindV s).1).2.2.1, (shapeV (kindV s).1).2.2.2.1, (shapeV (kindV s).1).2.2.2.2, ())) rfl fun A8 hp => ?_
  refine ev_new hp fun b8 A9 hp => ?_
  unfold f22c6
  refine ev_store 0 hp rfl rfl (Nat.le_of_ble_eq_true rfl) rfl fun A10 hp => ?_
  have hp := ((hp.front 3 rfl).front 2 rfl).front 3 rfl
  obtain ⟨y, hy⟩ : ∃ y, y = shapeV (kindV s).1 := ⟨_, rfl⟩
  obtain ⟨t0, t1, t2, t5, t8, hp⟩ : ∃ t0 t1 t2 t5 t8, Hp (tabsOf os) A10 (evs b1 b2 b5 t1 t2 t5 (readE0 s) (none, 0, 0) (.cells b8 (shpC y) t8 false (0, 0) false :: .cells b0 (evtC ⟨0, [], [], 0, 0, []⟩ (none, 0, 0)) t0 false (0, 0) false :: l)) := ⟨_, _, _, _, _, by rw [hy]; exact hp⟩
  have hE : readE s = stepD y.2.2.2.2 (stepB y.2.2.2.1 (stepA y.2.2.1 (stepQ y.2.1 (stepP y.1 (readE0 s))))) := by rw [hy]; rfl
  have f0 := fine0 s
  have f1 := fineP f0 y.1
  have f2 := fineQ f1 y.2.1
  have f3 := fineA f2 y.2.2.1
  have f4 := fineB f3 y.2.2.2.1
  have f5 := fineD f4 y.2.2.2.2
  have d4 : (stepB y.2.2.2.1 (stepA y.2.2.1 (stepQ y.2.1 (stepP y.1 (readE0 s))))).1.data = [] := by
    rw [data_keep.2.2.2, data_keep.2.2.1, data_keep.2.1, data_keep.1]; rfl
  refine ev_load 3 hp rfl rfl rfl (Nat.le_of_ble_eq_true rfl) (x := y.1) rfl ?_
  refine (takeP y.1 _ _ (by have := f0.rest; omega) hp hr fun A11 hp => ⟨(), rfl, ?_⟩).use hn
  generalize stepP y.1 (readE0 s) = st1 at *
  refine ev_load 3 hp rfl rfl rfl (Nat.le_of_ble_eq_true rfl) (x := y.2.1) rfl ?_
  unfold f22c5
  refine (takeQ y.2.1 _ _ (by have := f1.rest; omega) hp hr fun A12 hp => ⟨(), rfl, ?_⟩).use hn
  generalize stepQ y.2.1 st1 = st2 at *
  refine ev_load 3 hp rfl rfl rfl (Nat.le_of_ble_eq_true rfl) (x := y.2.2.1) rfl ?_
  refine (takeA y.2.2.1 _ _ (by have := f2.rest; omega) hp fun A13 hp => ⟨(), rfl, ?_⟩).use hn
  generalize stepA y.2.2.1 st2 = st3 at *
  refine ev_load 3 hp rfl rfl rfl (Nat.le_of_ble_eq_true rfl) (x := y.2.2.2.1) rfl ?_
  unfold f22c4
  refine (takeB y.2.2.2.1 _ _ (by have := f3.rest; omega) hp fun A14 hp => ⟨(), rfl, ?_⟩).use hn
  generalize stepB y.2.2.2.1 st3 = st4 at *
  refine ev_load 3 hp rfl rfl rfl (Nat.le_of_ble_eq_true rfl) (x := y.2.2.2.2) rfl ?_
  refine (takeD y.2.2.2.2 _ _ (by have := f4.rest; omega) hp hr rfl d4 fun A15 D d hp hsee => ⟨(), rfl, ?_⟩).use hn
  rw [← hE] at hp hsee f5
  unfold eventB at H
  generalize readE s = st at *
  have hp := hp.perm (l' := rdr b1 t1 false false st.2.1 st.2.2 :: .cells b5 (evtC st.1 d) t5 false (0, 0) false :: .cells b2 [.pointer (some ⟨b1, 0, none⟩)] t2 false (0, 0) false :: .cells b8 (shpC y) t8 false (0, 0) false :: .cells b0 (evtC ⟨0, [], [], 0, 0, []⟩ (none, 0, 0)) t0 false (0, 0) false :: (D ++ l)) (.cons _ (.cons _ (.cons _ (List.perm_middle.trans (.cons _ List.perm_middle)))))
  unfold f22c3
  refine ev_load 1 hp rfl rfl rfl (Nat.le_of_ble_eq_true rfl) (x := (st.1.kind, BA st.1.p, BA st.1.q, st.1.a, st.1.b, d, ())) rfl ?_
  have f6 := f5.p
  have f7 := f5.q
  have f8 := f5.data
  refine ((lineG st.1 d hsee.1 hsee (fun t ht => .tail _ (.tail _ (.tail _ (.tail _ (.tail _ (List.mem_append_left _ ht)))))) hr (by omega) (by omega) (by omega) f5.a f5.b hp fun A16 hp => ⟨(BA ((lineO st.1).getD []), (lineO st.1).isSome, ()), rfl, ?_⟩).mono (show 7 ≤ 9 by decide)).use hn
  generalize lineO st.1 = lo at *
  unfold f22c2
  refine ev_join (fun j A' => Hp (tabsOf os) A' (rdr b1 t1 false false st.2.1 st.2.2 :: .cells b5 (evtC st.1 d) t5 false (0, 0) false :: .cells b2 [.pointer (some ⟨b1, 0, none⟩)] t2 false (0, 0) false :: .cells b8 (shpC y) t8 false (0, 0) false :: .cells b0 (evtC st.1 d) t0 false (0, 0) false :: (D ++ l)) ∧
    j = (!st.2.2 && (decide (st.2.1 = []) && (lo.isSome && decide (lo.getD [] = s))), ())) ?_ fun go hgo => ?_
  · rintro _ A17 ⟨hp, rfl⟩
    refine ev_load 4 hp rfl rfl rfl (Nat.le_of_ble_eq_true rfl) (x := (st.1.kind, BA st.1.p, BA st.1.q, st.1.a, st.1.b, d, ())) rfl ?_
    exact ev_pure (H A17 D d (hp.drop 5) hsee)
  refine ev_load 1 hp rfl rfl rfl (Nat.le_of_ble_eq_true rfl) (x := (st.1.kind, BA st.1.p, BA st.1.q, st.1.a, st.1.b, d, ())) rfl ?_
  refine ev_load 2 hp rfl rfl rfl (Nat.le_of_ble_eq_true rfl) (x := some ⟨b1, 0, none⟩) rfl ?_
  refine ev_load 0 hp rfl rfl rfl (Nat.le_of_ble_eq_true rfl) (x := st.2.2) rfl ?_
  unfold f22c1
  have no : (!st.2.2 && (decide (st.2.1 = []) && (lo.isSome && decide (lo.getD [] = s)))) = false → Ev (M.store (Addr.mk b0 0 none) (evtC st.1 d) (go (false, ()))) A16 Q := fun h => by
    refine ev_store 4 hp rfl rfl (Nat.le_of_ble_eq_true rfl) rfl fun A17 hp => ?_
    exact hgo _ A17 ⟨hp, by rw [h]⟩
  refine ev_ite (fun h1 => ?_) fun h1 => ?_
  · refine ev_load 2 hp rfl rfl rfl (Nat.le_of_ble_eq_true rfl) (x := some ⟨b1, 0, none⟩) rfl ?_
    refine ev_load 0 hp rfl rfl rfl (Nat.le_of_ble_eq_true rfl) (x := BA st.2.1) rfl ?_
    rw [show st0 = BA [] from rfl, BA_seq]
    refine ev_ite (fun h2 => ?_) fun h2 => ?_
    · unfold f22c0
      refine ev_ite (fun h3 => ?_) fun h3 => ?_
      · have h3 : lo.isSome = true := h3
        refine ev_store 4 hp rfl rfl (Nat.le_of_ble_eq_true rfl) rfl fun A17 hp => ?_
        refine hgo _ A17 ⟨hp, ?_⟩
        rw [BA_seq, h1, h2, h3]; rfl
      · have h3 : lo.isSome = false := h3
        exact no (by rw [h3]; simp)
    · exact no (by rw [h2]; simp)
  · exact no (by rw [h1]; simp)
end
end Go.Proofs.YtlcigkdflbfdgaaGreatDoor.sf
namespace Go.Proofs.YtlcigkdflbfdgaaGreatDoor.sf
set_option linter.unusedVariables false
open Go Go.Eng Go.Sh
section
variable {os : List (Nat × AObj)} {A : AW} {Q : Value → AW → Prop} {l : List Thing}
/-- Cells that stand for an event. -/
def EvtAt (T : Tabs) (D : List Thing) (c : List Value) (x : Evt) : Prop := ∃ d : SL, c = evtC x d ∧ SeesB T D d.1 d.2.1 x.data
theorem EvtAt.mono {T : Tabs} {D E : List Thing} {c : List Value} {x : Evt} (h : EvtAt T D c x) (hs : ∀ t ∈ D, t ∈ E) : EvtAt T E c x := by
  obtain ⟨d, h1, h2⟩ := h
  exact ⟨d, h1, h2.mono hs⟩
theorem cFE (args : List Value) (I : Interp) (ρ : Type) (K : Value → M ρ) : callF CC I 22 args K = M.callS (.tuple [(.agg [(.int .i64), .string, .string, (.int .i64), (.int .i64), .slice]), (.cell .bool)]) (I.call (.call 22 args))
    fun x => K ((RSh.tuple [(.agg [(.int .i64), .string, .string, (.int .i64), (.int .i64), .slice]), (.cell .bool)]).inj x) := by kernel_rfl
set_option maxRecDepth 20000 in
theorem parsedEG (s : List UInt8) (hs : s.length < 2 ^ 36) (hr : Runes os) (hp : Hp (tabsOf os) A l)
    (H0 : 65536 < s.length → ∀ A', Hp (tabsOf os) A' l → Q (.tuple ⟨[.slice none 0 0, .int .i64 0, .int .i64 3]⟩) A')
    (H1 : s.length ≤ 65536 → ∀ xs A' a L D, parseV eventV s = .ok xs → Hp (tabsOf os) A' (.vec 51 6 false a xs.length xs.length L :: (D ++ l)) → AllAt (EvtAt (tabsOf os) D) 6 L xs → Q (.tuple ⟨[.slice a xs.length xs.length, .int .i64 0, .int .i64 0]⟩) A')
    (H2 : s.length ≤ 65536 → ∀ (k : Nat) A', parseV eventV s = .error k → Hp (tabsOf os) A' l → Q (.tuple ⟨[.slice none 0 0, .int .i64 (k : Int), .int .i64 5]⟩) A') :
    Goes (XX os) 11 21 [.string (BA s), .func (.func 22) ⟨[]⟩ ⟨[]⟩] A Q := by
  refine t21 (d := 10) (BA s, .func (.func 22) ⟨[]⟩ ⟨[]⟩, ()) fun n hn => ?_
  unfold f21 f21c3
  simp only [BA_size]
  rw [ltB_lit']
  refine ev_ite (fun h => ?_) fun h => ?_
  · exact ev_pure (H0 (of_decide_eq_true h) A hp)
  have hlen : s.length ≤ 65536 := by have := of_decide_eq_false h; omega
  clear H0 h
  replace H1 := H1 hlen
  replace H2 := H2 hlen
  refine ev_bind (ev_LL (fun μ st A' => ∃ rest xs a L D, μ = rest.length ∧ st = (BA rest, (a, xs.length, xs.length), ((xs.length + 1 : Nat) : Int), ()) ∧ Hp (tabsOf os) A' (.vec 51 6 false a xs.length xs.length L :: (D ++ l)) ∧ AllAt (EvtAt (tabsOf os) D) 6 L xs ∧
    parseV eventV s = behind xs (parseV eventV rest) ∧ xs.length + rest.length ≤ s.length) (m := s.length) ⟨s, [], none, [], [], rfl, rfl, hp.vec0 _ _ _, .nil, (behind_nil _).symm, by simp⟩ (by omega) ?_)
  rintro μ st A2 ⟨rest, xs, a, L, D, rfl, rfl, hp, hall, hpar, hle⟩
  unfold f21c2
  rw [show st0 = BA [] from rfl, BA_seq]
  refine ev_ite (fun h => ?_) fun h => ?_
  rotate_left
  · -- all is read
    have h : rest = [] := by simpa using h
    subst h
    rw [parse_nil] at hpar
    have hpar : parseV eventV s = .ok xs := by rw [hpar]; simp [behind]
    exact ev_pure (ev_pure (H1 xs A2 a L D hpar hp hall))
  have h : rest ≠ [] := by simpa using h
  rw [show st13 = BA [10] from rfl]
  refine ((cut1G rest 10 (by omega)).mono (show 4 ≤ 10 by decide)).use hn hp (x := (BA (cutV 10 rest).1, BA (cutV 10 rest).2.1, (cutV 10 rest).2.2, ())) rfl fun A3 hp => ?_
  simp only [callV, List.nil_append, List.append_nil]
  rw [cFE]
  have hl1 := cutV_len 10 rest
  refine (eventG (cutV 10 rest).1 (by omega) hr hp fun A4 D' d hp hsee => ⟨(((readE (cutV 10 rest).1).1.kind, BA (readE (cutV 10 rest).1).1.p, BA (readE (cutV 10 rest).1).1.q, (readE (cutV 10 rest).1).1.a, (readE (cutV 10 rest).1).1.b, d, ()), eventB (cutV 10 rest).1, ()), rfl, ?_⟩).use hn
  refine ev_need (x := (((readE (cutV 10 rest).1).1.kind, BA (readE (cutV 10 rest).1).1.p, BA (readE (cutV 10 rest).1).1.q, (readE (cutV 10 rest).1).1.a, (readE (cutV 10 rest).1).1.b, d, ()), eventB (cutV 10 rest).1, ())) rfl ?_
  have hp := hp.perm (l' := .vec 51 6 false a xs.length xs.length L :: ((D' ++ D) ++ l)) (by rw [List.append_assoc]; exact List.perm_middle)
  unfold f21c1
  refine ev_new hp fun b7 A5 hp => ?_
  refine ev_store 0 hp rfl rfl (Nat.le_of_ble_eq_true rfl) rfl fun A6 hp => ?_
  obtain ⟨x, hx⟩ : ∃ x, x = (readE (cutV 10 rest).1).1 := ⟨_, rfl⟩
  rw [← hx] at hp hsee
  obtain ⟨t7, hp⟩ : ∃ t7, Hp (tabsOf os) A6 (.cells b7 (evtC x d) t7 false (0, 0) false :: .vec 51 6 false a xs.length xs.length L :: ((D' ++ D) ++ l)) := ⟨_, hp⟩
  have bad : parseV eventV rest = .error 1 → ∀ A7, Hp (tabsOf os) A7 (.cells b7 (evtC x d) t7 false (0, 0) false :: .vec 51 6 false a xs.length xs.length L :: ((D' ++ D) ++ l)) → Q (.tuple ⟨[.slice none 0 0, .int .i64 ((xs.length + 1 : Nat) : Int), .int .i64 5]⟩) A7 := fun he A7 hp => by
    rw [he] at hpar
    exact H2 (xs.length + 1) A7 hpar (hp.sub (.cons _ (.cons _ (List.sublist_append_right _ _))))
  refine ev_join (fun j A' => Hp (tabsOf os) A' (.cells b7 (evtC x d) t7 false (0, 0) false :: .vec 51 6 false a xs.length xs.length L :: ((D' ++ D) ++ l)) ∧ j = (!((cutV 10 rest).2.2 && eventB (cutV 10 rest).1), ())) ?_ fun go hgo => ?_
  rotate_left
  · refine ev_ite (fun h1 => hgo _ A6 ⟨hp, ?_⟩) fun h1 => hgo _ A6 ⟨hp, ?_⟩
    · have h1 : (!(cutV 10 rest).2.2) = true := h1
      have h1 : (cutV 10 rest).2.2 = false := by simpa using h1
      rw [h1]; rfl
    · have h1 : (!(cutV 10 rest).2.2) = false := h1
      have h1 : (cutV 10 rest).2.2 = true := by simpa using h1
      rw [h1]; rfl
  rintro _ A7 ⟨hp, rfl⟩
  refine ev_ite (fun h1 => ?_) fun h1 => ?_
  · -- a line that is none
    have h1 : (!((cutV 10 rest).2.2 && eventB (cutV 10 rest).1)) = true := h1
    refine ev_pure (ev_pure (bad ?_ A7 hp))
    cases hc : cutAt 10 rest with
    | none => exact parse_none _ h hc
    | some p =>
      have e2 : cutV 10 rest = (p.1, p.2, true) := by unfold cutV; rw [hc]
      rw [e2] at h1
      refine parse_bad _ hc ?_
      have h1 : eventB p.1 = false := by simpa using h1
      unfold eventV
      rw [h1]; rfl
  · have h1 : (!((cutV 10 rest).2.2 && eventB (cutV 10 rest).1)) = false := h1
    cases hc : cutAt 10 rest with
    | none =>
      have e2 : cutV 10 rest = (rest, [], false) := by unfold cutV; rw [hc]
      rw [e2] at h1
      simp at h1
    | some p =>
      have e2 : cutV 10 rest = (p.1, p.2, true) := by unfold cutV; rw [hc]
      rw [e2] at h1 hx ⊢
      have h1 : eventB p.1 = true := by simpa using h1
      have hf : eventV p.1 = some x := by unfold eventV; rw [h1, hx]; rfl
      have hcl := cutAt_len hc
      unfold f21c0
      refine ev_load 0 hp rfl rfl rfl (Nat.le_of_ble_eq_true rfl) (x := (x.kind, BA x.p, BA x.q, x.a, x.b, d, ())) rfl ?_
      refine ev_new hp fun b11 A8 hp => ?_
      refine ev_append_row 2 0 hp rfl rfl (m := 1) rfl (by decide) (by decide) (by show (2 * (xs.length + 1) + 200) * 80 ≤ _; omega) rfl fun A9 a9 hp => ?_
      refine ev_pure ⟨p.2.length, by omega, p.2, xs ++ [x], a9, L ++ evtC x d, D' ++ D, rfl, ?_, ?_, ?_, ?_, ?_⟩
      · rw [List.length_append, addW_1 (by omega)]; rfl
      · rw [List.length_append]; exact hp.tail.tail
      · exact AllAt.snoc (hall.mono fun c y h => h.mono fun t ht => List.mem_append_right _ ht) rfl ⟨d, rfl, hsee.mono fun t ht => List.mem_append_left _ ht⟩
      · rw [hpar, parse_some _ hc hf, behind_snoc]
      · rw [List.length_append]; simp only [List.length_cons, List.length_nil]; omega
theorem parseG (s : List UInt8) (hs : s.length < 2 ^ 36) (hr : Runes os) (hp : Hp (tabsOf os) A l)
    (H0 : 65536 < s.length → ∀ A', Hp (tabsOf os) A' l → Q (.tuple ⟨[.slice none 0 0, .int .i64 0, .int .i64 3]⟩) A')
    (H1 : s.length ≤ 65536 → ∀ xs A' a L D, parseV eventV s = .ok xs → Hp (tabsOf os) A' (.vec 51 6 false a xs.length xs.length L :: (D ++ l)) → AllAt (EvtAt (tabsOf os) D) 6 L xs → Q (.tuple ⟨[.slice a xs.length xs.length, .int .i64 0, .int .i64 0]⟩) A')
    (H2 : s.length ≤ 65536 → ∀ (k : Nat) A', parseV eventV s = .error k → Hp (tabsOf os) A' l → Q (.tuple ⟨[.slice none 0 0, .int .i64 (k : Int), .int .i64 5]⟩) A') :
    Goes (XX os) 12 8 [.string (BA s)] A Q := by
  refine t8 (d := 11) (BA s, ()) fun n hn => ?_
  simp only [f8]
  exact (parsedEG s hs hr hp (fun h A' hp => ⟨((none, 0, 0), (0 : Int), (3 : Int), ()), rfl, ev_pure (H0 h A' hp)⟩) (fun h xs A' a L D he hp hall => ⟨((a, xs.length, xs.length), (0 : Int), (0 : Int), ()), rfl, ev_pure (H1 h xs A' a L D he hp hall)⟩)
    (fun h k A' he hp => ⟨((none, 0, 0), (k : Int), (5 : Int), ()), rfl, ev_pure (H2 h k A' he hp)⟩)).use hn
end
end Go.Proofs.YtlcigkdflbfdgaaGreatDoor.sf
namespace Go.Proofs.YtlcigkdflbfdgaaGreatDoor.sf
set_option linter.unusedVariables false
open Go Go.Eng Go.Sh
end Go.Proofs.YtlcigkdflbfdgaaGreatDoor.sf
namespace Go.Proofs.YtlcigkdflbfdgaaGreatDoor.sf
set_option linter.unusedVariables false
open Go Go.Eng Go.Sh
end Go.Proofs.YtlcigkdflbfdgaaGreatDoor.sf
namespace Go.Proofs.YtlcigkdflbfdgaaGreatDoor.sf
set_option linter.unusedVariables false
open Go Go.Eng Go.Sh
end Go.Proofs.YtlcigkdflbfdgaaGreatDoor.sf
