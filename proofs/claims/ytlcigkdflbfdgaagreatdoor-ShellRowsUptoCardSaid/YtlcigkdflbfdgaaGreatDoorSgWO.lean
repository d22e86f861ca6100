/-
 Walks: WH, WI, WJ, WK, WL, WM, WN, WO.
-/
import Derived.Test.YtlcigkdflbfdgaaGreatDoorSgWG
import Derived.Test.YtlcigkdflbfdgaaGreatDoorEng30
import Derived.Test.YtlcigkdflbfdgaaGreatDoorPlain
namespace Go.Proofs.YtlcigkdflbfdgaaGreatDoor.sg
set_option linter.unusedVariables false
open Go Go.Eng Go.Sh
section
variable {os : List (Nat × AObj)} {A : AW} {Q : Value → AW → Prop} {l : List Thing}
theorem wakesG (hp : Hp (tabsOf os) A l) (H : Q (.bool true) A) : Goes (XX os) 1 11 [] A Q := by
 intro n hn
 cases n with
 | zero => omega
 | succ n =>
  refine ⟨.bool true, A, ?_, H⟩
  show iterU _ _ _ _ (n + 1) (.call _ _) A = _
  simp only [iterU]
  rw [sumNum_else (by decide) (by decide), sumTabs_at fun h r p e => (hp.tab h r p (tabs_keep e)).1]
theorem itoaG {n : Int} (hn : -9223372036854775808 ≤ n ∧ n ≤ 9223372036854775807) : Gives (tabsOf os) (XX os) 1 40 [.int .i64 n] (.string (BA (Lib.itoa n))) := by
 intro A l Q hp H m hm
 cases m with
 | zero => omega
 | succ m =>
  refine ⟨_, A, ?_, H A hp⟩
  show iterU _ _ _ _ (m + 1) (.call _ _) A = _
  simp only [iterU]
  rw [sumNum_itoa (decide_eq_true hn) fun h r p e => (hp.tab h r p (tabs_keep e)).1]
theorem atoiG (s : List UInt8) (hs : s.length < 2 ^ 38) (hp : Hp (tabsOf os) A l)
  (H : ∀ A' v, Hp (tabsOf os) A' l → (∀ (ρ : Type) (K : Bool → M ρ), aEql PP 87 false true v .nilIface K = K (!atoiB s)) → Q (.tuple ⟨[.int .i64 (atoiN s), v]⟩) A') : Goes (XX os) 1 74 [.string (BA s)] A Q := by
 intro m hm
 cases m with
 | zero => omega
 | succ m =>
  refine ⟨(atoiEnd 148 s A).1, (atoiEnd 148 s A).2, ?_, ?_⟩
  ·show iterU _ _ _ _ (m + 1) (.call _ _) A = _
   simp only [iterU]
   rw [sumNum_atoi (by decide) (by omega) fun h r p e => (hp.tab h r p (tabs_keep e)).1]
  ·unfold atoiEnd
   have hu : PP.underlying 87 = _ := Tryz.underlying87
   have e1 : atoiN s = match Lib.atoiAll s with | .ok n => n | .range => Lib.atoiSat s | _ => 0 := rfl
   have e2 : atoiB s = match Lib.atoiAll s with | .ok _ => false | _ => true := rfl
   cases hk : Lib.atoiAll s with
   | ok n =>
    rw [hk] at e1 e2
    rw [e1] at H
    exact H A .nilIface hp fun ρ K => by rw [e2]; simp only [aEql, hu]; rfl
   | range =>
    rw [hk] at e1 e2
    rw [e1] at H
    exact H _ _ (skip_hp hp) fun ρ K => by rw [e2]; simp only [aEql, hu]; rfl
   | _ =>
    rw [hk] at e1 e2
    rw [e1] at H
    exact H _ _ (skip_hp hp) fun ρ K => by rw [e2]; simp only [aEql, hu]; rfl
/-- The next number; what is left; was there none? -/
def numberV (s : List UInt8) : Int × List UInt8 × Bool := (atoiN (plainV s).1, (plainV s).2.1, (plainV s).2.2 || (atoiB (plainV s).1 || !decide (Lib.itoa (atoiN (plainV s).1) = (plainV s).1)))
theorem cutV_len (c : UInt8) (s : List UInt8) : (cutV c s).1.length ≤ s.length ∧ (cutV c s).2.1.length ≤ s.length := by
 unfold cutV
 cases h : cutAt c s with
 | none => exact ⟨Nat.le_refl _, Nat.zero_le _⟩
 | some p =>
  have := cutAt_len h
  have h1 := congrArg List.length (cutAt_some h).1
  rw [List.length_append, List.length_cons] at h1
  simp only
  omega
theorem plainV_len (s : List UInt8) : (plainV s).1.length ≤ s.length ∧ (plainV s).2.1.length ≤ s.length := cutV_len 32 s
theorem numberG {b : Nat} {e : TypeId} {g ish : Bool} (s : List UInt8) (bad : Bool) (hs : s.length < 2 ^ 38) (hp : Hp (tabsOf os) A (rdr b e g ish s bad :: l))
  (H : ∀ A', Hp (tabsOf os) A' (rdr b e g ish (numberV s).2.1 (bad || (numberV s).2.2) :: l) → Q (.int .i64 (numberV s).1) A') : Goes (XX os) 6 52 [.pointer (some ⟨b, 0, none⟩)] A Q := by
 refine t52 (d := 5) (some ⟨b, 0, none⟩, ()) fun n hn => ?_
 simp only [f52, f52c0]
 refine (plainG s bad hs hp fun A1 hp => ⟨_, rfl, ?_⟩).use hn
 have hl := plainV_len s
 unfold numberV at H
 generalize plainV s = q at *
 obtain ⟨q1, q2, q3⟩ := q
 simp only at *
 refine ((atoiG q1 (by omega) hp fun A2 v hp hv => ⟨(atoiN q1, v, ()), rfl, ?_⟩).mono (show 1 ≤ 5 by decide)).use hn
 obtain ⟨c, hc⟩ : ∃ c, c = (atoiB q1 || !decide (Lib.itoa (atoiN q1) = q1)) := ⟨_, rfl⟩
 rw [← hc] at H
 refine ev_join (fun _ A' => Hp (tabsOf os) A' (rdr b e g ish q2 (bad || (q3 || c)) :: l)) ?_ fun go hgo => ?_
 ·rintro _ A3 hp
  exact ev_pure (H A3 hp)
 refine ev_join (fun j A' => Hp (tabsOf os) A' (rdr b e g ish q2 (bad || q3) :: l) ∧ j = (c, ())) ?_ fun go2 hgo2 => ?_
 ·rintro _ A3 ⟨hp, rfl⟩
  refine ev_ite (fun h => ?_) fun h => ?_
  ·have h : c = true := h
   refine ev_store 0 hp rfl rfl (Nat.le_of_ble_eq_true rfl) rfl fun A4 hp => hgo _ A4 ?_
   rw [h, Bool.or_true, Bool.or_true]
   exact hp
  ·have h : c = false := h
   refine hgo _ A3 ?_
   rw [h, Bool.or_false]
   exact hp
 rw [hv, Bool.not_not]
 refine ev_ite (fun h => ?_) fun h => ?_
 ·exact hgo2 _ A2 ⟨hp, by rw [hc, h]; rfl⟩
 ·refine ((itoaG (atoiN_in q1)).mono (show 1 ≤ 5 by decide)).use hn hp rfl fun A3 hp => hgo2 _ A3 ⟨hp, ?_⟩
  rw [BA_seq, hc, h]; rfl
end
end Go.Proofs.YtlcigkdflbfdgaaGreatDoor.sg
namespace Go.Proofs.YtlcigkdflbfdgaaGreatDoor.sg
set_option linter.unusedVariables false
open Go Go.Eng Go.Sh
structure Evt where
 kind : Int
 p : List UInt8
 q : List UInt8
 a : Int
 b : Int
 data : List UInt8
 deriving DecidableEq
abbrev evtC (x : Evt) (d : SL) : List Value := [.int .i64 x.kind, .string (BA x.p), .string (BA x.q), .int .i64 x.a, .int .i64 x.b, .slice d.1 d.2.1 d.2.2]
theorem kindL_small : (kindL.all fun x => decide (x.length ≤ 10)) = true := by kernel_rfl
theorem nameV_len (k : Int) : (nameV k).length ≤ 10 := by
 unfold nameV
 split
 ·simp
 ·rw [List.getD_eq_getElem?_getD]
  cases h : kindL[k.toNat]? with
  | none => simp
  | some x => exact of_decide_eq_true (List.all_eq_true.1 kindL_small x (List.mem_of_getElem? h))
section
variable {os : List (Nat × AObj)} {A : AW} {Q : Value → AW → Prop} {l : List Thing} {X : XT} {L : LoopI}
section
variable {b0 b3 t3 t0 : Nat} {y : Bool × Bool × Bool × Bool × Bool} {x : Evt} {d : SL} {go : ((Bool) × Unit) → M (Value)}
end
end
end Go.Proofs.YtlcigkdflbfdgaaGreatDoor.sg
namespace Go.Proofs.YtlcigkdflbfdgaaGreatDoor.sg
set_option linter.unusedVariables false
open Go Go.Eng Go.Sh
section
variable {os : List (Nat × AObj)} {A : AW} {Q : Value → AW → Prop} {m : List Thing}
abbrev St := Evt × List UInt8 × Bool
/-- A reader, an event, the reader's box. -/
abbrev evs (b1 b2 b5 t1 t2 t5 : Nat) (st : St) (d : SL) (m : List Thing) : List Thing := rdr b1 t1 false false st.2.1 st.2.2 :: .cells b5 (evtC st.1 d) t5 false (0, 0) false :: .cells b2 [.pointer (some ⟨b1, 0, none⟩)] t2 false (0, 0) false :: m
section
variable {b1 b2 b5 t1 t2 t5 : Nat} (is : Bool) (st : St) (d : SL) (hs : st.2.1.length < 2 ^ 36) (hp : Hp (tabsOf os) A (evs b1 b2 b5 t1 t2 t5 st d m))
include hs hp
end
end
end Go.Proofs.YtlcigkdflbfdgaaGreatDoor.sg
namespace Go.Proofs.YtlcigkdflbfdgaaGreatDoor.sg
set_option linter.unusedVariables false
open Go Go.Eng Go.Sh
section
/-- What was read so far is no longer than the line. -/
structure Fine (N : Nat) (st : St) : Prop where
 rest : st.2.1.length ≤ N
 p : st.1.p.length ≤ N
 q : st.1.q.length ≤ N
 data : st.1.data.length ≤ N
 a : -9223372036854775808 ≤ st.1.a ∧ st.1.a ≤ 9223372036854775807
 b : -9223372036854775808 ≤ st.1.b ∧ st.1.b ≤ 9223372036854775807
theorem wordV_len (s : List UInt8) : (wordV s).1.length ≤ s.length ∧ (wordV s).2.1.length ≤ s.length := by
 unfold wordV
 cases h : unqG s with
 | none => simp
 | some x =>
  obtain ⟨t, r⟩ := x
  have h1 := unqG_some h
  have h2 := congrArg List.length h1
  have h3 := inside_len t
  have h4 : (word t).length = (inside t).length + 2 := by unfold word; simp
  rw [List.length_append] at h2
  simp only
  split
  ·simp; omega
  ·split
   ·simp; omega
   ·simp; omega
theorem numberV_len (s : List UInt8) : (numberV s).2.1.length ≤ s.length := (plainV_len s).2
end
section
variable {os : List (Nat × AObj)} {A : AW} {Q : Value → AW → Prop} {l : List Thing}
end
end Go.Proofs.YtlcigkdflbfdgaaGreatDoor.sg
namespace Go.Proofs.YtlcigkdflbfdgaaGreatDoor.sg
set_option linter.unusedVariables false
open Go Go.Eng Go.Sh
section
variable {os : List (Nat × AObj)} {A : AW} {Q : Value → AW → Prop} {l : List Thing}
end
end Go.Proofs.YtlcigkdflbfdgaaGreatDoor.sg
namespace Go.Proofs.YtlcigkdflbfdgaaGreatDoor.sg
set_option linter.unusedVariables false
open Go Go.Eng Go.Sh
structure Rw where
 kind : Int
 err : Int
 is : Bool
 data : List UInt8
 s1 : Int
 s2 : Int
 s3 : Int
 s4 : Int
 ents : List (Int × List UInt8)
 deriving DecidableEq
abbrev rwC (x : Rw) (d e : SL) : List Value := [.int .i64 x.kind, .int .i64 x.err, .bool x.is, .slice d.1 d.2.1 d.2.2, .int .i64 x.s1, .int .i64 x.s2, .int .i64 x.s3, .int .i64 x.s4, .slice e.1 e.2.1 e.2.2]
/-- Entries, as cells. -/
def entC : List (Int × List UInt8) → List Value
 | [] => []
 | p :: t => .int .i64 p.1 :: .string (BA p.2) :: entC t
theorem entC_len : ∀ L : List (Int × List UInt8), (entC L).length = L.length * 2
 | [] => rfl
 | p :: t => by rw [entC, List.length_cons, List.length_cons, entC_len t, List.length_cons]; omega
theorem entC_append : ∀ a b : List (Int × List UInt8), entC (a ++ b) = entC a ++ entC b
 | [], _ => rfl
 | p :: t, b => by rw [List.cons_append, entC, entC_append t b, entC]; rfl
theorem entC_at : ∀ (L : List (Int × List UInt8)) (i : Nat) (hi : i < L.length), ((entC L).drop (i * 2)).take 2 = [.int .i64 (L[i]'hi).1, .string (BA (L[i]'hi).2)]
 | [], _, h => absurd h (Nat.not_lt_zero _)
 | p :: t, 0, _ => rfl
 | p :: t, i + 1, h => by
  have := entC_at t i (by simpa using h)
  rw [show (i + 1) * 2 = i * 2 + 2 by omega]
  exact this
def entT (p : Int × List UInt8) : List UInt8 := ([32] ++ Lib.itoa p.1 ++ [32]) ++ word p.2
def entsT (L : List (Int × List UInt8)) : List UInt8 := L.flatMap entT
def statL (x : Rw) : List Int := [x.s1, x.s2, x.s3, x.s4]
def statT (L : List Int) : List UInt8 := L.flatMap fun n => [32] ++ Lib.itoa n
noncomputable def tailV (x : Rw) : List UInt8 := if eqB x.kind 7 then [32] ++ word x.data else if eqB x.kind 10 then statT (statL x) else if eqB x.kind 11 then entsT x.ents else
 if (eqB x.kind 15 || eqB x.kind 16) then (if x.is then [32, 121, 101, 115] else [32, 110, 111]) else []
/-- A row's line. -/
noncomputable def rlV (x : Rw) : List UInt8 := if eqB x.err 0 then (nameV x.kind ++ [32, 111, 107]) ++ tailV x else nameV x.kind ++ ([32, 101, 114, 114, 111, 114, 32] ++ Lib.itoa x.err)
noncomputable def bareE (x : Rw) : Bool := (eqB x.err 0 && eqB x.kind 11) || eqB ((x.ents.length : Nat) : Int) 0
noncomputable def zeroS (x : Rw) : Bool := (x.s1 == 0 && (x.s2 == 0 && (x.s3 == 0 && x.s4 == 0)))
noncomputable def bareS (x : Rw) : Bool := ((eqB x.err 0 && eqB x.kind 10) || zeroS x) && bareE x
noncomputable def bareD (x : Rw) : Bool := ((eqB x.err 0 && eqB x.kind 7) || eqB ((x.data.length : Nat) : Int) 0) && bareS x
/-- May it be written? -/
noncomputable def rlB (x : Rw) : Bool := (!decide (nameV x.kind = []) && bareD x) && (!x.is || (eqB x.err 0 && (eqB x.kind 15 || eqB x.kind 16)))
section
variable {os : List (Nat × AObj)} {A : AW} {Q : Value → AW → Prop} {l : List Thing} {X : XT} {L : LoopI}
theorem stat_eql {ρ : Type} (a b c d a' b' c' d' : Int) (K : Bool → M ρ) : aEql PP 66 false false (.agg ⟨[.int .i64 a, .int .i64 b, .int .i64 c, .int .i64 d]⟩) (.agg ⟨[.int .i64 a', .int .i64 b', .int .i64 c', .int .i64 d']⟩) K =
  K (a == a' && (b == b' && (c == c' && d == d'))) := by kernel_rfl
theorem ent_eql {ρ : Type} (a a' : Int) (b b' : ByteArray) (K : Bool → M ρ) : aEql PP 71 false false (.agg ⟨[.int .i64 a, .string b]⟩) (.agg ⟨[.int .i64 a', .string b']⟩) K = K (a == a' && seq b b') := by kernel_rfl
section
variable {b0 t0 : Nat} {x : Rw} {d e : SL} {go : ((Bool) × Unit) → M (Value)}
/-- The entries' part. -/
theorem rl_e (hp : Hp (tabsOf os) A (.cells b0 (rwC x d e) t0 false (0, 0) false :: l)) (he : e.2.1 = x.ents.length) (h : Ev (go (bareE x, ())) A Q) :
  Ev (M.ite (eqB x.err 0) (M.load (.cell (.int .i64)) 1 ((Addr.mk b0 0 none).add 0) fun (k : Int) => M.ite (eqB k 11) (go (true, ())) (M.load (.cell .slice) 1 ((Addr.mk b0 0 none).add 8) fun (y : SL) => go (eqB ((y.2.1 : Nat) : Int) 0, ())))
   (M.load (.cell .slice) 1 ((Addr.mk b0 0 none).add 8) fun (y : SL) => go (eqB ((y.2.1 : Nat) : Int) 0, ()))) A Q := by
 unfold bareE at h
 rw [← he] at h
 refine ev_ite (fun h1 => ?_) fun h1 => ?_
 ·rw [h1] at h
  refine ev_load 0 hp rfl rfl rfl (Nat.le_of_ble_eq_true rfl) (x := x.kind) rfl ?_
  refine ev_ite (fun h2 => ?_) fun h2 => ?_
  ·rw [h2] at h; exact h
  ·rw [h2] at h
   exact ev_load 0 hp rfl rfl rfl (Nat.le_of_ble_eq_true rfl) (x := e) rfl h
 ·rw [h1] at h
  exact ev_load 0 hp rfl rfl rfl (Nat.le_of_ble_eq_true rfl) (x := e) rfl h
theorem rl_c1 (hp : Hp (tabsOf os) A (.cells b0 (rwC x d e) t0 false (0, 0) false :: l)) (he : e.2.1 = x.ents.length) (h : Ev (go (zeroS x && bareE x, ())) A Q) :
  Ev (f28c1 X L b0 (eqB x.err 0) go (x.s1, x.s2, x.s3, x.s4, ())) A Q := by
 unfold f28c1
 rw [stat_eql]
 refine ev_ite (fun h1 => ?_) fun h1 => ?_
 ·have h1 : zeroS x = true := h1
  rw [h1] at h
  exact rl_e hp he h
 ·have h1 : zeroS x = false := h1
  rw [h1] at h
  exact h
/-- The Stat's part. -/
theorem rl_s (hp : Hp (tabsOf os) A (.cells b0 (rwC x d e) t0 false (0, 0) false :: l)) (he : e.2.1 = x.ents.length) (h : Ev (go (bareS x, ())) A Q) :
  Ev (M.ite (eqB x.err 0) (M.load (.cell (.int .i64)) 1 ((Addr.mk b0 0 none).add 0) fun (k : Int) => f28c2 X L b0 (eqB x.err 0) go (eqB k 10))
   (M.load (.agg [(.int .i64), (.int .i64), (.int .i64), (.int .i64)]) 4 ((Addr.mk b0 0 none).add 4) fun (y : Int × Int × Int × Int × Unit) => f28c1 X L b0 (eqB x.err 0) go y)) A Q := by
 unfold bareS at h
 have c : Ev (go (zeroS x && bareE x, ())) A Q → Ev (M.load (.agg [(.int .i64), (.int .i64), (.int .i64), (.int .i64)]) 4 ((Addr.mk b0 0 none).add 4) fun (y : Int × Int × Int × Int × Unit) => f28c1 X L b0 (eqB x.err 0) go y) A Q := fun h =>
  ev_load 0 hp rfl rfl rfl (Nat.le_of_ble_eq_true rfl) (x := (x.s1, x.s2, x.s3, x.s4, ())) rfl (rl_c1 hp he h)
 refine ev_ite (fun h1 => ?_) fun h1 => ?_
 ·refine ev_load 0 hp rfl rfl rfl (Nat.le_of_ble_eq_true rfl) (x := x.kind) rfl ?_
  unfold f28c2
  refine ev_ite (fun h2 => ?_) fun h2 => ?_
  ·rw [h1, h2] at h
   exact rl_e hp he h
  ·rw [h1, h2] at h
   exact c h
 ·rw [h1] at h
  exact c h
theorem rl_d (hp : Hp (tabsOf os) A (.cells b0 (rwC x d e) t0 false (0, 0) false :: l)) (hd : d.2.1 = x.data.length) (he : e.2.1 = x.ents.length) (h : Ev (go (bareD x, ())) A Q) :
  Ev (f28c11 X L b0 (eqB x.err 0) go) A Q := by
 unfold bareD at h
 rw [← hd] at h
 have c : Ev (go (eqB ((d.2.1 : Nat) : Int) 0 && bareS x, ())) A Q → Ev (M.load (.cell .slice) 1 ((Addr.mk b0 0 none).add 3) fun (y : SL) => M.ite (eqB ((y.2.1 : Nat) : Int) 0)
   (M.ite (eqB x.err 0) (M.load (.cell (.int .i64)) 1 ((Addr.mk b0 0 none).add 0) fun (k : Int) => f28c2 X L b0 (eqB x.err 0) go (eqB k 10))
    (M.load (.agg [(.int .i64), (.int .i64), (.int .i64), (.int .i64)]) 4 ((Addr.mk b0 0 none).add 4) fun (y : Int × Int × Int × Int × Unit) => f28c1 X L b0 (eqB x.err 0) go y))
   (go (false, ()))) A Q := fun h => by
  refine ev_load 0 hp rfl rfl rfl (Nat.le_of_ble_eq_true rfl) (x := d) rfl ?_
  refine ev_ite (fun h2 => ?_) fun h2 => ?_
  ·rw [h2] at h; exact rl_s hp he h
  ·rw [h2] at h; exact h
 unfold f28c11
 refine ev_ite (fun h1 => ?_) fun h1 => ?_
 ·refine ev_load 0 hp rfl rfl rfl (Nat.le_of_ble_eq_true rfl) (x := x.kind) rfl ?_
  unfold f28c7
  refine ev_ite (fun h2 => ?_) fun h2 => ?_
  ·rw [h1, h2] at h
   exact rl_s (X := X) (L := L) hp he h
  ·rw [h1, h2] at h
   exact c h
 ·rw [h1] at h
  exact c h
end
theorem need_at (a b c d : Int) {i : Nat} (h : i < 4) : (([(.int .i64 a), (.int .i64 b), (.int .i64 c), (.int .i64 d)] : List Value)[(Int.toNat (i : Int)) * 1]?).bind ((.cell (.int .i64)) : Sh).prj = some (([a, b, c, d] : List Int)[i]'h) := by
 have : i = 0 ∨ i = 1 ∨ i = 2 ∨ i = 3 := by omega
 rcases this with rfl | rfl | rfl | rfl <;> rfl
theorem statT_next {S : List Int} {i : Nat} (h : i < S.length) : statT (S.take (i + 1)) = statT (S.take i) ++ ([32] ++ Lib.itoa (S[i]'h)) := by
 unfold statT
 rw [List.take_add_one, List.getElem?_eq_getElem h, Option.toList_some, List.flatMap_append, List.flatMap_singleton]
theorem entsT_next {S : List (Int × List UInt8)} {i : Nat} (h : i < S.length) : entsT (S.take (i + 1)) = entsT (S.take i) ++ entT (S[i]'h) := by
 unfold entsT
 rw [List.take_add_one, List.getElem?_eq_getElem h, Option.toList_some, List.flatMap_append, List.flatMap_singleton]
theorem statT_le (S : List Int) (i : Nat) : (statT (S.take i)).length ≤ (statT S).length := by
 conv => rhs; rw [← List.take_append_drop i S]
 unfold statT
 rw [List.flatMap_append, List.length_append]
 omega
theorem entsT_le (S : List (Int × List UInt8)) (i : Nat) : (entsT (S.take i)).length ≤ (entsT S).length := by
 conv => rhs; rw [← List.take_append_drop i S]
 unfold entsT
 rw [List.flatMap_append, List.length_append]
 omega
/-- A row whose parts are of bounded length, and its numbers int64's. -/
structure Small (x : Rw) : Prop where
 err : -9223372036854775808 ≤ x.err ∧ x.err ≤ 9223372036854775807
 stat : ∀ n ∈ statL x, -9223372036854775808 ≤ n ∧ n ≤ 9223372036854775807
 ino : ∀ p ∈ x.ents, -9223372036854775808 ≤ p.1 ∧ p.1 ≤ 9223372036854775807
 data : x.data.length < 2 ^ 36
 names : ∀ p ∈ x.ents, p.2.length < 2 ^ 36
 count : x.ents.length < 2 ^ 38
 all : (entsT x.ents).length < 2 ^ 60
theorem rowLineG (x : Rw) (d e : SL) {D : List Thing} (hsee : SeesB (tabsOf os) D d.1 d.2.1 x.data) (hro : RowsAt (tabsOf os) D e.1 e.2.1 2 (entC x.ents)) (he : e.2.1 = x.ents.length) (hD : ∀ t ∈ D, t ∈ l) (hr : Runes os) (hx : Small x) (hp : Hp (tabsOf os) A l)
  (H : ∀ A', Hp (tabsOf os) A' l → Q (.tuple ⟨[.string (BA (rlV x)), .bool (rlB x)]⟩) A') : Goes (XX os) 7 28 [.agg ⟨rwC x d e⟩] A Q := by
 refine t28 (d := 6) ((x.kind, x.err, x.is, d, x.s1, x.s2, x.s3, x.s4, e, ()), ()) fun n hn => ?_
 unfold f28 f28c20
 refine ev_new hp fun b0 A1 hp => ?_
 obtain ⟨t0, hp⟩ : ∃ t0, Hp (tabsOf os) A1 (.cells b0 (rwC x d e) t0 false (0, 0) false :: l) := ⟨_, hp⟩
 refine ev_load 0 hp rfl rfl rfl (Nat.le_of_ble_eq_true rfl) (x := x.kind) rfl ?_
 refine (nameG x.kind).use hn hp rfl fun A2 hp => ?_
 have n1 := nameV_len x.kind
 refine ev_join (fun j A' => Hp (tabsOf os) A' (.cells b0 (rwC x d e) t0 false (0, 0) false :: l) ∧ j = (BA (rlV x), ())) ?_ fun go hgo => ?_
 ·rintro _ A3 ⟨hp, rfl⟩
  refine ev_load 0 hp rfl rfl rfl (Nat.le_of_ble_eq_true rfl) (x := x.err) rfl ?_
  unfold f28c12
  refine ev_join (fun j A' => Hp (tabsOf os) A' (.cells b0 (rwC x d e) t0 false (0, 0) false :: l) ∧ j = ((!decide (nameV x.kind = []) && bareD x), ())) ?_ fun go hgo => ?_
  ·rintro _ A4 ⟨hp, rfl⟩
   refine ev_join (fun j A' => Hp (tabsOf os) A' (.cells b0 (rwC x d e) t0 false (0, 0) false :: l) ∧ j = (BA (rlV x), rlB x, ())) ?_ fun go hgo => ?_
   ·rintro _ A5 ⟨hp, rfl⟩
    exact ev_pure (H A5 hp.tail)
   unfold rlB at hgo
   refine ev_ite (fun h1 => ?_) fun h1 => ?_
   ·have h1 : (!decide (nameV x.kind = []) && bareD x) = true := h1
    rw [h1] at hgo
    unfold f28c0
    refine ev_load 0 hp rfl rfl rfl (Nat.le_of_ble_eq_true rfl) (x := x.is) rfl ?_
    refine ev_ite (fun h2 => ?_) fun h2 => ?_
    ·exact hgo _ A4 ⟨hp, by rw [h2]; rfl⟩
    refine ev_ite (fun h3 => ?_) fun h3 => ?_
    ·refine ev_load 0 hp rfl rfl rfl (Nat.le_of_ble_eq_true rfl) (x := x.kind) rfl ?_
     refine ev_ite (fun h4 => ?_) fun h4 => ?_
     ·exact hgo _ A4 ⟨hp, by rw [h2, h3, h4]; rfl⟩
     ·refine ev_load 0 hp rfl rfl rfl (Nat.le_of_ble_eq_true rfl) (x := x.kind) rfl ?_
      refine ev_load 0 hp rfl rfl rfl (Nat.le_of_ble_eq_true rfl) (x := x.kind) rfl (ev_cond_t (by simp [veqv, veq1]) ?_)
      exact hgo _ A4 ⟨hp, by rw [h2, h3, h4]; rfl⟩
    ·exact hgo _ A4 ⟨hp, by rw [h2, h3]; rfl⟩
   ·have h1 : (!decide (nameV x.kind = []) && bareD x) = false := h1
    rw [h1] at hgo
    exact hgo _ A4 ⟨hp, rfl⟩
  ·refine ev_load 0 hp rfl rfl rfl (Nat.le_of_ble_eq_true rfl) (x := x.kind) rfl ?_
   refine (nameG x.kind).use hn hp rfl fun A4 hp => ?_
   rw [show st0 = BA [] from rfl, BA_seq]
   refine ev_ite (fun h1 => ?_) fun h1 => ?_
   ·rw [h1] at hgo
    exact rl_d hp hsee.1 he (hgo _ A4 ⟨hp, rfl⟩)
   ·rw [h1] at hgo
    exact hgo _ A4 ⟨hp, rfl⟩
 refine ev_load 0 hp rfl rfl rfl (Nat.le_of_ble_eq_true rfl) (x := x.err) rfl ?_
 unfold f28c19
 unfold rlV at hgo
 refine ev_ite (fun h1 => ?_) fun h1 => ?_
 ·have h1 : eqB x.err 0 = false := by simpa using h1
  rw [h1] at hgo
  refine ev_load 0 hp rfl rfl rfl (Nat.le_of_ble_eq_true rfl) (x := x.err) rfl ?_
  have i1 := itoa_len hx.err
  refine ((itoaG hx.err).mono (show 1 ≤ 6 by decide)).use hn hp rfl fun A3 hp => ?_
  rw [show st17 = BA [32, 101, 114, 114, 111, 114, 32] from rfl]
  refine ev_guard (Nat.ble_eq_true_of_le (by show 7 + (Lib.itoa x.err).length ≤ _; omega)) ?_
  rw [BA_append]
  refine ev_guard (Nat.ble_eq_true_of_le (by simp only [BA_size, List.length_append, List.length_cons, List.length_nil]; omega)) ?_
  rw [BA_append]
  exact hgo _ A3 ⟨hp, rfl⟩
 have h1 : eqB x.err 0 = true := by simpa using h1
 rw [h1] at hgo
 simp only [if_true] at hgo
 rw [show st18 = BA [32, 111, 107] from rfl]
 refine ev_guard (Nat.ble_eq_true_of_le (by simp only [BA_size, List.length_cons, List.length_nil]; omega)) ?_
 refine ev_load 0 hp rfl rfl rfl (Nat.le_of_ble_eq_true rfl) (x := x.kind) rfl ?_
 rw [BA_append]
 obtain ⟨v, hv⟩ : ∃ v, v = nameV x.kind ++ [32, 111, 107] := ⟨_, rfl⟩
 have hvl : v.length ≤ 13 := by rw [hv, List.length_append]; simp only [List.length_cons, List.length_nil]; omega
 rw [← hv] at hgo ⊢
 clear hv
 refine ev_join (fun j A' => Hp (tabsOf os) A' (.cells b0 (rwC x d e) t0 false (0, 0) false :: l) ∧ j = (BA (v ++ tailV x), ())) ?_ fun go2 hgo2 => ?_
 ·rintro _ A3 ⟨hp, rfl⟩
  exact hgo _ A3 ⟨hp, rfl⟩
 clear hgo
 unfold tailV at hgo2
 unfold f28c18
 rw [show st14 = BA [32] from rfl]
 refine ev_ite (fun h2 => ?_) fun h2 => ?_
 ·rw [if_pos h2] at hgo2
  refine ev_load 0 hp rfl rfl rfl (Nat.le_of_ble_eq_true rfl) (x := d) rfl ?_
  refine ev_see hp (fun t ht => .tail _ (hD t ht)) hsee ?_
  have h9 := hx.data
  have w1 := word_le x.data
  refine ((quoteGG x.data (by omega) hr).mono (show 4 ≤ 6 by decide)).use hn hp rfl fun A3 hp => ?_
  refine ev_guard (Nat.ble_eq_true_of_le (by show 1 + (word x.data).length ≤ _; omega)) ?_
  rw [BA_append]
  refine ev_guard (Nat.ble_eq_true_of_le (by simp only [BA_size, List.length_append, List.length_cons, List.length_nil]; omega)) ?_
  rw [BA_append]
  exact hgo2 _ A3 ⟨hp, rfl⟩
 rw [if_neg (by rw [h2]; decide)] at hgo2
 refine ev_ite (fun h3 => ?_) fun h3 => ?_
 ·rw [if_pos h3] at hgo2
  unfold f28c14
  refine ev_load 0 hp rfl rfl rfl (Nat.le_of_ble_eq_true rfl) (x := x.s1) rfl ?_
  refine ev_load 0 hp rfl rfl rfl (Nat.le_of_ble_eq_true rfl) (x := x.s2) rfl ?_
  refine ev_load 0 hp rfl rfl rfl (Nat.le_of_ble_eq_true rfl) (x := x.s3) rfl ?_
  refine ev_load 0 hp rfl rfl rfl (Nat.le_of_ble_eq_true rfl) (x := x.s4) rfl ?_
  have hst : (statT (statL x)).length ≤ 88 := by
   have a1 := itoa_len (hx.stat x.s1 (by simp [statL]))
   have a2 := itoa_len (hx.stat x.s2 (by simp [statL]))
   have a3 := itoa_len (hx.stat x.s3 (by simp [statL]))
   have a4 := itoa_len (hx.stat x.s4 (by simp [statL]))
   simp only [statT, statL, List.flatMap_cons, List.flatMap_nil, List.length_append, List.length_cons, List.length_nil]
   omega
  refine ev_bind (ev_LL (fun μ st A' => ∃ i, μ = 4 - i ∧ i ≤ 4 ∧ st = (BA (v ++ statT ((statL x).take i)), ((i : Nat) : Int), ()) ∧ Hp (tabsOf os) A' (.cells b0 (rwC x d e) t0 false (0, 0) false :: l)) (m := 4) ⟨0, rfl, by omega, by simp [statT], hp⟩ (by omega) ?_)
  rintro μ st A3 ⟨i, rfl, hi, rfl, hp⟩
  refine ev_ite (fun h => ?_) fun h => ?_
  ·have h4 : i < 4 := of_decide_eq_true ((ltB_nat i 4).symm.trans h)
   unfold f28c13
   refine ev_guard ((inB_nat i 4).trans (decide_eq_true h4)) ?_
   refine ev_need (need_at _ _ _ _ h4) ?_
   have hin := hx.stat ((statL x)[i]'h4) (List.getElem_mem _)
   have i1 := itoa_len hin
   have hle := statT_le (statL x) i
   refine ((itoaG hin).mono (show 1 ≤ 6 by decide)).use hn hp rfl fun A4 hp => ?_
   rw [show st14 = BA [32] from rfl]
   refine ev_guard (Nat.ble_eq_true_of_le (by show 1 + (Lib.itoa ((statL x)[i]'h4)).length ≤ _; omega)) ?_
   simp only [BA_append]
   refine ev_guard (Nat.ble_eq_true_of_le (by simp only [BA_size, List.length_append, List.length_cons, List.length_nil]; omega)) ?_
   refine ev_pure ⟨4 - (i + 1), by omega, i + 1, rfl, by omega, ?_, hp⟩
   rw [addW_1 (by omega), statT_next (S := statL x) h4]
   simp only [List.append_assoc]
  ·have h4 : ¬ i < 4 := of_decide_eq_false ((ltB_nat i 4).symm.trans h)
   refine ev_pure (hgo2 _ A3 ⟨hp, ?_⟩)
   rw [List.take_of_length_le (by show 4 ≤ i; omega)]
 rw [if_neg (by rw [h3]; decide)] at hgo2
 unfold f28c17
 refine ev_ite (fun h4 => ?_) fun h4 => ?_
 ·rw [if_pos h4] at hgo2
  refine ev_load 0 hp rfl rfl rfl (Nat.le_of_ble_eq_true rfl) (x := e) rfl ?_
  have hc := hx.count
  have hall := hx.all
  refine ev_bind (ev_LL (fun μ st A' => ∃ i, μ = x.ents.length - i ∧ i ≤ x.ents.length ∧ st = (BA (v ++ entsT (x.ents.take i)), ((i : Nat) : Int), ()) ∧ Hp (tabsOf os) A' (.cells b0 (rwC x d e) t0 false (0, 0) false :: l)) (m := x.ents.length) ⟨0, rfl, by omega, by simp [entsT], hp⟩ (by omega) ?_)
  rintro μ st A3 ⟨i, rfl, hi, rfl, hp⟩
  simp only [he, ltB_nat, inB_nat]
  refine ev_ite (fun h => ?_) fun h => ?_
  ·have h5 : i < x.ents.length := of_decide_eq_true h
   refine ev_guard (decide_eq_true h5) ?_
   obtain ⟨ae, hae⟩ := hro.some (hp.has fun t ht => .tail _ (hD t ht)) (show i < e.2.1 by omega)
   have hro' := hro
   rw [hae] at hro' ⊢
   show Ev (f28c16 (XX os n) LL (BA (v ++ entsT (x.ents.take i)), ((i : Nat) : Int), ()) ae) A3 _
   unfold f28c16
   refine ev_rec (i := i) hp (fun t ht => .tail _ (hD t ht)) hro' (by omega) (x := ((x.ents[i]'h5).1, BA (x.ents[i]'h5).2, ())) (by rw [entC_at _ _ h5]; rfl) ?_
   refine ev_new hp fun b6 A4 hp => ?_
   refine ev_store 0 hp rfl rfl (Nat.le_of_ble_eq_true rfl) rfl fun A5 hp => ?_
   refine ev_load 0 hp rfl rfl rfl (Nat.le_of_ble_eq_true rfl) (x := (x.ents[i]'h5).1) rfl ?_
   refine ev_load 0 hp rfl rfl rfl (Nat.le_of_ble_eq_true rfl) (x := BA (x.ents[i]'h5).2) rfl ?_
   have hin := hx.ino (x.ents[i]'h5) (List.getElem_mem _)
   have i1 := itoa_len hin
   have hnm := hx.names (x.ents[i]'h5) (List.getElem_mem _)
   have w1 := word_le (x.ents[i]'h5).2
   have hle := entsT_le x.ents (i + 1)
   rw [entsT_next h5, List.length_append] at hle
   have hent : (entT (x.ents[i]'h5)).length = 1 + (Lib.itoa (x.ents[i]'h5).1).length + 1 + (word (x.ents[i]'h5).2).length := by
    simp [entT]; omega
   refine ((itoaG hin).mono (show 1 ≤ 6 by decide)).use hn hp rfl fun A6 hp => ?_
   unfold f28c15
   refine ev_load 0 hp rfl rfl rfl (Nat.le_of_ble_eq_true rfl) (x := BA (x.ents[i]'h5).2) rfl (ev_cond_t (by simp [veqv, veq1, BA_seq]) ?_)
   rw [show st14 = BA [32] from rfl]
   refine ev_guard (Nat.ble_eq_true_of_le (by show 1 + (Lib.itoa (x.ents[i]'h5).1).length ≤ _; omega)) ?_
   simp only [BA_append]
   refine ev_guard (Nat.ble_eq_true_of_le (by simp only [BA_size, List.length_append, List.length_cons, List.length_nil]; omega)) ?_
   refine ((quoteGG (x.ents[i]'h5).2 (by omega) hr).mono (show 4 ≤ 6 by decide)).use hn hp rfl fun A7 hp => ?_
   refine ev_guard (Nat.ble_eq_true_of_le (by simp only [BA_size, List.length_append, List.length_cons, List.length_nil]; omega)) ?_
   simp only [BA_append]
   refine ev_guard (Nat.ble_eq_true_of_le (by simp only [BA_size, List.length_append, List.length_cons, List.length_nil]; omega)) ?_
   refine ev_pure ⟨x.ents.length - (i + 1), by omega, i + 1, rfl, by omega, ?_, hp.tail⟩
   rw [addW_1 (by omega), entsT_next h5]
   simp only [entT, List.append_assoc]
  ·have h5 : ¬ i < x.ents.length := of_decide_eq_false h
   refine ev_pure (hgo2 _ A3 ⟨hp, ?_⟩)
   rw [List.take_of_length_le (by omega)]
 rw [if_neg (by rw [h4]; decide)] at hgo2
 refine ev_join (fun j A' => Hp (tabsOf os) A' (.cells b0 (rwC x d e) t0 false (0, 0) false :: l) ∧ j = ((eqB x.kind 15 || eqB x.kind 16), ())) ?_ fun go3 hgo3 => ?_
 rotate_left
 ·refine ev_ite (fun h5 => hgo3 _ A2 ⟨hp, by rw [h5]; rfl⟩) fun h5 => hgo3 _ A2 ⟨hp, by rw [h5]; rfl⟩
 rintro _ A3 ⟨hp, rfl⟩
 refine ev_ite (fun h5 => ?_) fun h5 => ?_
 ·have h5 : (eqB x.kind 15 || eqB x.kind 16) = true := h5
  rw [if_pos h5] at hgo2
  refine ev_load 0 hp rfl rfl rfl (Nat.le_of_ble_eq_true rfl) (x := x.is) rfl ?_
  rw [show st19 = BA [32, 121, 101, 115] from rfl, show st20 = BA [32, 110, 111] from rfl]
  refine ev_ite (fun h6 => ?_) fun h6 => ?_
  ·rw [if_pos h6] at hgo2
   refine ev_guard (Nat.ble_eq_true_of_le (by simp only [BA_size, List.length_cons, List.length_nil]; omega)) ?_
   rw [BA_append]
   exact hgo2 _ A3 ⟨hp, rfl⟩
  ·rw [if_neg (by rw [h6]; decide)] at hgo2
   refine ev_guard (Nat.ble_eq_true_of_le (by simp only [BA_size, List.length_cons, List.length_nil]; omega)) ?_
   rw [BA_append]
   exact hgo2 _ A3 ⟨hp, rfl⟩
 ·have h5 : (eqB x.kind 15 || eqB x.kind 16) = false := h5
  rw [if_neg (by rw [h5]; decide), List.append_nil] at hgo2
  exact hgo2 _ A3 ⟨hp, rfl⟩
end
end Go.Proofs.YtlcigkdflbfdgaaGreatDoor.sg
namespace Go.Proofs.YtlcigkdflbfdgaaGreatDoor.sg
set_option linter.unusedVariables false
open Go Go.Eng Go.Sh
section
abbrev Rst := Rw × List UInt8 × Bool
def row0 (k : Int) : Rw := ⟨k, 0, false, [], 0, 0, 0, 0, []⟩
/-- Entries, up to the line's end. -/
def entsV : Nat → List UInt8 → Bool → List (Int × List UInt8) × List UInt8 × Bool
 | 0, s, b => ([], s, b)
 | k + 1, s, b => if s = [] ∨ b = true then ([], s, b) else
  (((numberV s).1, (wordV (numberV s).2.1).1) :: (entsV k (wordV (numberV s).2.1).2.1 ((b || (numberV s).2.2) || (wordV (numberV s).2.1).2.2)).1,
   (entsV k (wordV (numberV s).2.1).2.1 ((b || (numberV s).2.2) || (wordV (numberV s).2.1).2.2)).2)
noncomputable def readR2 (k : Int) (told rest : List UInt8) (b : Bool) : Rst :=
 if told = [101, 114, 114, 111, 114] then ({ row0 k with err := (numberV rest).1 }, (numberV rest).2.1, b || (numberV rest).2.2)
 else if ¬ told = [111, 107] then (row0 k, rest, true)
 else if eqB k 7 then ({ row0 k with data := (wordV rest).1 }, (wordV rest).2.1, b || (wordV rest).2.2)
 else if eqB k 10 then
  ({ row0 k with s1 := (numberV rest).1, s2 := (numberV (numberV rest).2.1).1, s3 := (numberV (numberV (numberV rest).2.1).2.1).1, s4 := (numberV (numberV (numberV (numberV rest).2.1).2.1).2.1).1 },
   (numberV (numberV (numberV (numberV rest).2.1).2.1).2.1).2.1,
   (((b || (numberV rest).2.2) || (numberV (numberV rest).2.1).2.2) || (numberV (numberV (numberV rest).2.1).2.1).2.2) || (numberV (numberV (numberV (numberV rest).2.1).2.1).2.1).2.2)
 else if eqB k 11 then ({ row0 k with ents := (entsV (rest.length + 1) rest b).1 }, (entsV (rest.length + 1) rest b).2)
 else if (eqB k 15 || eqB k 16) then ({ row0 k with is := decide ((plainV rest).1 = [121, 101, 115]) }, (plainV rest).2.1, b || (plainV rest).2.2)
 else (row0 k, rest, b)
noncomputable def readR (s : List UInt8) : Rst := readR2 (kindV s).1 (plainV (kindV s).2.1).1 (plainV (kindV s).2.1).2.1 ((kindV s).2.2 || (plainV (kindV s).2.1).2.2)
noncomputable def rowB (s : List UInt8) : Bool := !(readR s).2.2 && (decide ((readR s).2.1 = []) && (rlB (readR s).1 && decide (rlV (readR s).1 = s)))
/-- The row of a line, if it is one's. -/
noncomputable def rowV (s : List UInt8) : Option Rw := if rowB s then some (readR s).1 else none
theorem cutV_short (c : UInt8) {s : List UInt8} (h : s ≠ []) : (cutV c s).2.1.length < s.length := by
 unfold cutV
 have h0 := List.length_pos_iff.2 h
 cases hc : cutAt c s with
 | none => exact h0
 | some p =>
  have := cutAt_len hc
  simp only
  omega
theorem numberV_short {s : List UInt8} (h : s ≠ []) : (numberV s).2.1.length < s.length := cutV_short 32 h
/-- What entries are read are few, and short. -/
theorem entsV_fine (N : Nat) : ∀ (k : Nat) (s : List UInt8) (b : Bool), s.length ≤ N → (entsV k s b).1.length ≤ s.length ∧ (∀ p ∈ (entsV k s b).1, p.2.length ≤ N ∧ -9223372036854775808 ≤ p.1 ∧ p.1 ≤ 9223372036854775807)
 | 0, s, b, _ => by simp [entsV]
 | k + 1, s, b, h => by
  rw [entsV]
  split
  ·simp
  ·rename_i hs
   have hs : s ≠ [] := fun e => hs (.inl e)
   have h1 := numberV_short hs
   have h2 := wordV_len (numberV s).2.1
   have ih := entsV_fine N k (wordV (numberV s).2.1).2.1 ((b || (numberV s).2.2) || (wordV (numberV s).2.1).2.2) (by omega)
   refine ⟨?_, fun p hp => ?_⟩
   ·simp only [List.length_cons]; omega
   ·rcases List.mem_cons.1 hp with rfl | hp
    ·exact ⟨by simp only []; omega, atoiN_in _⟩
    ·exact ih.2 p hp
theorem entsT_bound (N : Nat) : ∀ L : List (Int × List UInt8), (∀ p ∈ L, p.2.length ≤ N ∧ -9223372036854775808 ≤ p.1 ∧ p.1 ≤ 9223372036854775807) → (entsT L).length ≤ L.length * (4 * N + 25)
 | [], _ => by simp [entsT]
 | p :: t, h => by
  have ih := entsT_bound N t fun q hq => h q (.tail _ hq)
  have hp := h p (.head _)
  have w := word_le p.2
  have i := itoa_len hp.2
  have e : entsT (p :: t) = entT p ++ entsT t := by simp [entsT]
  have e2 : (entT p).length = 1 + (Lib.itoa p.1).length + 1 + (word p.2).length := by simp [entT]; omega
  rw [e, List.length_append, List.length_cons, Nat.add_mul, Nat.one_mul]
  omega
theorem small_mk (x : Rw) (N : Nat) (hN : N ≤ 1048576) (h1 : -9223372036854775808 ≤ x.err ∧ x.err ≤ 9223372036854775807) (h2 : ∀ n ∈ statL x, -9223372036854775808 ≤ n ∧ n ≤ 9223372036854775807) (h3 : x.data.length ≤ N) (h4 : x.ents.length ≤ N)
  (h5 : ∀ p ∈ x.ents, p.2.length ≤ N ∧ -9223372036854775808 ≤ p.1 ∧ p.1 ≤ 9223372036854775807) : Small x :=
 ⟨h1, h2, fun p hp => (h5 p hp).2, by omega, fun p hp => by have := (h5 p hp).1; omega, by omega, by
  have := entsT_bound N x.ents h5
  have h6 : x.ents.length * (4 * N + 25) ≤ 1048576 * (4 * 1048576 + 25) := Nat.mul_le_mul (by omega) (by omega)
  omega⟩
theorem statL0 (k : Int) : ∀ n ∈ statL (row0 k), -9223372036854775808 ≤ n ∧ n ≤ 9223372036854775807 := fun n hn => by
 simp [statL, row0] at hn
 subst hn
 omega
theorem small_read (s : List UInt8) (hs : s.length ≤ 1048576) : Small (readR s).1 := by
 have k1 := (plainV_len s).2
 have k2 := (plainV_len (kindV s).2.1).2
 have k3 : (kindV s).2.1.length ≤ s.length := k1
 unfold readR
 generalize (kindV s).1 = k
 generalize hr : (plainV (kindV s).2.1).2.1 = rest at *
 generalize (plainV (kindV s).2.1).1 = told
 generalize ((kindV s).2.2 || (plainV (kindV s).2.1).2.2) = b
 have z : ∀ n : Int, -9223372036854775808 ≤ (0 : Int) ∧ (0 : Int) ≤ 9223372036854775807 := fun _ => by omega
 have nil : ∀ p ∈ ([] : List (Int × List UInt8)), p.2.length ≤ 1048576 ∧ -9223372036854775808 ≤ p.1 ∧ p.1 ≤ 9223372036854775807 := fun p hp => by cases hp
 unfold readR2
 split
 ·exact small_mk _ 1048576 (Nat.le_refl _) (atoiN_in _) (statL0 k) (Nat.zero_le _) (Nat.zero_le _) nil
 split
 ·exact small_mk _ 1048576 (Nat.le_refl _) (z 0) (statL0 k) (Nat.zero_le _) (Nat.zero_le _) nil
 split
 ·have := (wordV_len rest).1
  exact small_mk _ 1048576 (Nat.le_refl _) (z 0) (statL0 k) (by show (wordV rest).1.length ≤ _; omega) (Nat.zero_le _) nil
 split
 ·refine small_mk _ 1048576 (Nat.le_refl _) (z 0) (fun n hn => ?_) (Nat.zero_le _) (Nat.zero_le _) nil
  simp only [statL, List.mem_cons, List.not_mem_nil, or_false] at hn
  rcases hn with rfl | rfl | rfl | rfl <;> exact atoiN_in _
 split
 ·have h := entsV_fine 1048576 (rest.length + 1) rest b (by omega)
  exact small_mk _ 1048576 (Nat.le_refl _) (z 0) (statL0 k) (Nat.zero_le _) (by show (entsV (rest.length + 1) rest b).1.length ≤ _; omega) h.2
 split
 ·exact small_mk _ 1048576 (Nat.le_refl _) (z 0) (statL0 k) (Nat.zero_le _) (Nat.zero_le _) nil
 ·exact small_mk _ 1048576 (Nat.le_refl _) (z 0) (statL0 k) (Nat.zero_le _) (Nat.zero_le _) nil
end
section
variable {os : List (Nat × AObj)} {A : AW} {Q : Value → AW → Prop} {l : List Thing}
theorem veqv_sl (d : SL) : veqv (.slice d.1 d.2.1 d.2.2) (.slice d.1 d.2.1 d.2.2) = true := by
 simp [veqv, veq1]
set_option maxRecDepth 20000 in
theorem rowG (s : List UInt8) (hs : s.length ≤ 1048576) (hr : Runes os) (hp : Hp (tabsOf os) A l)
  (H : ∀ A' D d e, Hp (tabsOf os) A' (D ++ l) → SeesB (tabsOf os) D d.1 d.2.1 (readR s).1.data → RowsAt (tabsOf os) D e.1 e.2.1 2 (entC (readR s).1.ents) → e.2.1 = (readR s).1.ents.length → Q (.tuple ⟨[.agg ⟨rwC (readR s).1 d e⟩, .bool (rowB s)]⟩) A') : Goes (XX os) 9 31 [.string (BA s)] A Q := by
 refine t31 (d := 8) (BA s, ()) fun n hn => ?_
 unfold f31
 refine ev_new hp fun b0 A1 hp => ?_
 refine ev_new hp fun b1 A2 hp => ?_
 refine ((kindG s false (by omega) hp fun A3 hp => ⟨_, rfl, ?_⟩).mono (show 6 ≤ 8 by decide)).use hn
 unfold f31c13
 refine ev_new hp fun b3 A4 hp => ?_
 refine ev_store 0 hp rfl rfl (Nat.le_of_ble_eq_true rfl) rfl fun A5 hp => ?_
 have hp := hp.front 1 rfl
 have hk : (kindV s).2.1.length ≤ s.length := (plainV_len s).2
 refine ((plainG (kindV s).2.1 (false || (kindV s).2.2) (by omega) hp fun A6 hp => ⟨_, rfl, ?_⟩).mono (show 5 ≤ 8 by decide)).use hn
 have hpl := (plainV_len (kindV s).2.1).2
 have hsm := small_read s hs
 have hrd : readR s = readR2 (kindV s).1 (plainV (kindV s).2.1).1 (plainV (kindV s).2.1).2.1 ((kindV s).2.2 || (plainV (kindV s).2.1).2.2) := rfl
 unfold rowB at H
 rw [Bool.false_or] at hp
 generalize readR s = st at *
 generalize (kindV s).1 = k at *
 generalize hrest : (plainV (kindV s).2.1).2.1 = rest at *
 generalize (plainV (kindV s).2.1).1 = told at *
 generalize ((kindV s).2.2 || (plainV (kindV s).2.1).2.2) = b at *
 obtain ⟨t0, t1, t3, hp⟩ : ∃ t0 t1 t3, Hp (tabsOf os) A6 (rdr b1 t1 false false rest b :: .cells b3 (rwC (row0 k) (none, 0, 0) (none, 0, 0)) t3 false (0, 0) false :: .cells b0 (rwC (row0 0) (none, 0, 0) (none, 0, 0)) t0 false (0, 0) false :: l) := ⟨_, _, _, hp⟩
 have hrl : rest.length < 2 ^ 36 := by omega
 unfold f31c12
 refine ev_join (fun _ A' => ∃ D d e, Hp (tabsOf os) A' (rdr b1 t1 false false st.2.1 st.2.2 :: .cells b3 (rwC st.1 d e) t3 false (0, 0) false :: .cells b0 (rwC (row0 0) (none, 0, 0) (none, 0, 0)) t0 false (0, 0) false :: (D ++ l)) ∧
  SeesB (tabsOf os) D d.1 d.2.1 st.1.data ∧ RowsAt (tabsOf os) D e.1 e.2.1 2 (entC st.1.ents) ∧ e.2.1 = st.1.ents.length) ?_ fun go hgo => ?_
 ·-- the line again
  rintro _ A7 ⟨D, d, e, hp, hsee, hro, he⟩
  refine ev_load 1 hp rfl rfl rfl (Nat.le_of_ble_eq_true rfl) (x := (st.1.kind, st.1.err, st.1.is, d, st.1.s1, st.1.s2, st.1.s3, st.1.s4, e, ())) rfl ?_
  unfold f31c4
  refine ((rowLineG st.1 d e hsee hro he (fun t ht => .tail _ (.tail _ (.tail _ (List.mem_append_left _ ht)))) hr hsm hp fun A8 hp => ⟨(BA (rlV st.1), rlB st.1, ()), rfl, ?_⟩).mono (show 7 ≤ 8 by decide)).use hn
  refine ev_join (fun j A' => Hp (tabsOf os) A' (rdr b1 t1 false false st.2.1 st.2.2 :: .cells b3 (rwC st.1 d e) t3 false (0, 0) false :: .cells b0 (rwC st.1 d e) t0 false (0, 0) false :: (D ++ l)) ∧
   j = (!st.2.2 && (decide (st.2.1 = []) && (rlB st.1 && decide (rlV st.1 = s))), ())) ?_ fun go hgo => ?_
  ·rintro _ A9 ⟨hp, rfl⟩
   unfold f31c0
   refine ev_load 2 hp rfl rfl rfl (Nat.le_of_ble_eq_true rfl) (x := (st.1.kind, st.1.err, st.1.is, d, st.1.s1, st.1.s2, st.1.s3, st.1.s4, e, ())) rfl ?_
   exact ev_pure (H A9 D d e (hp.drop 3) hsee hro he)
  refine ev_load 1 hp rfl rfl rfl (Nat.le_of_ble_eq_true rfl) (x := (st.1.kind, st.1.err, st.1.is, d, st.1.s1, st.1.s2, st.1.s3, st.1.s4, e, ())) rfl ?_
  unfold f31c3
  refine ev_load 0 hp rfl rfl rfl (Nat.le_of_ble_eq_true rfl) (x := st.2.2) rfl ?_
  have no : (!st.2.2 && (decide (st.2.1 = []) && (rlB st.1 && decide (rlV st.1 = s)))) = false → Ev (M.store (Addr.mk b0 0 none) (rwC st.1 d e) (go (false, ()))) A8 Q := fun h => by
   refine ev_store 2 hp rfl rfl (Nat.le_of_ble_eq_true rfl) rfl fun A17 hp => ?_
   exact hgo _ A17 ⟨hp, by rw [h]⟩
  refine ev_ite (fun h1 => ?_) fun h1 => ?_
  ·unfold f31c2
   refine ev_load 0 hp rfl rfl rfl (Nat.le_of_ble_eq_true rfl) (x := BA st.2.1) rfl ?_
   rw [show st0 = BA [] from rfl, BA_seq]
   refine ev_ite (fun h2 => ?_) fun h2 => ?_
   ·unfold f31c1
    refine ev_ite (fun h3 => ?_) fun h3 => ?_
    ·have h3 : rlB st.1 = true := h3
     refine ev_store 2 hp rfl rfl (Nat.le_of_ble_eq_true rfl) rfl fun A17 hp => ?_
     refine hgo _ A17 ⟨hp, ?_⟩
     rw [BA_seq, h1, h2, h3]; rfl
    ·have h3 : rlB st.1 = false := h3
     exact no (by rw [h3]; simp)
   ·exact no (by rw [h2]; simp)
  ·exact no (by rw [h1]; simp)
 -- the parts
 have fin : ∀ A' x rs bd, st = (x, rs, bd) → Hp (tabsOf os) A' (rdr b1 t1 false false rs bd :: .cells b3 (rwC x (none, 0, 0) (none, 0, 0)) t3 false (0, 0) false :: .cells b0 (rwC (row0 0) (none, 0, 0) (none, 0, 0)) t0 false (0, 0) false :: l) → x.data = [] → x.ents = [] → Ev (go ()) A' Q := fun A' x rs bd e hp hd he => by
  subst e
  refine hgo () A' ⟨[], (none, 0, 0), (none, 0, 0), hp, ?_, ?_, ?_⟩
  ·rw [hd]; exact .nil
  ·rw [he]; exact .nil
  ·rw [he]; rfl
 unfold readR2 at hrd
 rw [show st21 = BA [101, 114, 114, 111, 114] from rfl, BA_seq]
 refine ev_ite (fun h1 => ?_) fun h1 => ?_
 ·have h1 := of_decide_eq_true h1
  rw [if_pos h1] at hrd
  refine ((numberG rest b (by omega) hp fun A7 hp => ⟨_, rfl, ?_⟩).mono (show 6 ≤ 8 by decide)).use hn
  refine ev_store 1 hp rfl rfl (Nat.le_of_ble_eq_true rfl) rfl fun A8 hp => ?_
  exact fin A8 _ _ _ hrd hp rfl rfl
 have h1 := of_decide_eq_false h1
 rw [if_neg h1] at hrd
 rw [show st22 = BA [111, 107] from rfl, BA_seq]
 refine ev_ite (fun h2 => ?_) fun h2 => ?_
 ·have h2 : ¬ told = [111, 107] := by simpa using h2
  rw [if_pos h2] at hrd
  subst hrd
  unfold f31c6
  refine ev_load 1 hp rfl rfl rfl (Nat.le_of_ble_eq_true rfl) (x := (k, (0 : Int), false, (none, 0, 0), (0 : Int), (0 : Int), (0 : Int), (0 : Int), (none, 0, 0), ())) rfl ?_
  refine ev_store 2 hp rfl rfl (Nat.le_of_ble_eq_true rfl) rfl fun A7 hp => ?_
  unfold f31c5
  refine ev_load 2 hp rfl rfl rfl (Nat.le_of_ble_eq_true rfl) (x := (k, (0 : Int), false, (none, 0, 0), (0 : Int), (0 : Int), (0 : Int), (0 : Int), (none, 0, 0), ())) rfl ?_
  exact ev_pure (H A7 [] (none, 0, 0) (none, 0, 0) (hp.drop 3) .nil .nil rfl)
 have h2 : told = [111, 107] := by simpa using h2
 rw [if_neg (by rw [h2]; simp)] at hrd
 refine ev_load 1 hp rfl rfl rfl (Nat.le_of_ble_eq_true rfl) (x := k) rfl ?_
 unfold f31c11
 refine ev_ite (fun h3 => ?_) fun h3 => ?_
 ·rw [if_pos h3] at hrd
  refine ((wordG rest b hrl hr hp fun A7 hp => ⟨_, rfl, ?_⟩).mono (show 6 ≤ 8 by decide)).use hn
  refine ev_ofStr hp fun bd A8 hp => ?_
  refine ev_store 2 hp rfl rfl (Nat.le_of_ble_eq_true rfl) rfl fun A9 hp => ?_
  have hp := (((hp.front 3 rfl).front 3 rfl).front 3 rfl)
  refine hgo () A9 ⟨[.vec 5 1 true (some ⟨bd, 0, none⟩) (wordV rest).1.length (wordV rest).1.length (u8s (wordV rest).1)], (some ⟨bd, 0, none⟩, (wordV rest).1.length, (wordV rest).1.length), (none, 0, 0), ?_, ?_, ?_, ?_⟩
  ·rw [hrd]; exact hp
  ·rw [hrd]; exact .vec (List.mem_singleton.2 rfl) rfl
  ·rw [hrd]; exact .nil
  ·rw [hrd]; rfl
 rw [if_neg (by rw [h3]; decide)] at hrd
 refine ev_load 1 hp rfl rfl rfl (Nat.le_of_ble_eq_true rfl) (x := k) rfl ?_
 refine ev_ite (fun h4 => ?_) fun h4 => ?_
 ·rw [if_pos h4] at hrd
  have l1 := numberV_len rest
  have l2 := numberV_len (numberV rest).2.1
  have l3 := numberV_len (numberV (numberV rest).2.1).2.1
  refine ((numberG rest b (by omega) hp fun A7 hp => ⟨_, rfl, ?_⟩).mono (show 6 ≤ 8 by decide)).use hn
  unfold f31c7
  refine ((numberG _ _ (by omega) hp fun A8 hp => ⟨_, rfl, ?_⟩).mono (show 6 ≤ 8 by decide)).use hn
  refine ((numberG _ _ (by omega) hp fun A9 hp => ⟨_, rfl, ?_⟩).mono (show 6 ≤ 8 by decide)).use hn
  refine ((numberG _ _ (by omega) hp fun A10 hp => ⟨_, rfl, ?_⟩).mono (show 6 ≤ 8 by decide)).use hn
  refine ev_store 1 hp rfl rfl (Nat.le_of_ble_eq_true rfl) rfl fun A11 hp => ?_
  refine ev_store 1 hp rfl rfl (Nat.le_of_ble_eq_true rfl) rfl fun A12 hp => ?_
  refine ev_store 1 hp rfl rfl (Nat.le_of_ble_eq_true rfl) rfl fun A13 hp => ?_
  refine ev_store 1 hp rfl rfl (Nat.le_of_ble_eq_true rfl) rfl fun A14 hp => ?_
  exact fin A14 _ _ _ hrd hp rfl rfl
 rw [if_neg (by rw [h4]; decide)] at hrd
 refine ev_load 1 hp rfl rfl rfl (Nat.le_of_ble_eq_true rfl) (x := k) rfl ?_
 unfold f31c10
 refine ev_ite (fun h5 => ?_) fun h5 => ?_
 ·rw [if_pos h5] at hrd
  obtain ⟨E, hE⟩ : ∃ E, E = entsV (rest.length + 1) rest b := ⟨_, rfl⟩
  rw [← hE] at hrd
  have hp := ((hp.vec0 71 2 false).front 2 rfl).front 2 rfl
  refine ev_bind (ev_LL (fun μ s37 A' => ∃ rs bd dn a j, μ = rs.length ∧ s37 = () ∧ rs.length ≤ rest.length ∧ dn.length + rs.length ≤ rest.length ∧ rs.length < j ∧ E = (dn ++ (entsV j rs bd).1, (entsV j rs bd).2) ∧
   Hp (tabsOf os) A' (rdr b1 t1 false false rs bd :: .cells b3 (rwC (row0 k) (none, 0, 0) (a, dn.length, dn.length)) t3 false (0, 0) false :: .vec 71 2 false a dn.length dn.length (entC dn) :: .cells b0 (rwC (row0 0) (none, 0, 0) (none, 0, 0)) t0 false (0, 0) false :: l))
   (m := rest.length) ⟨rest, b, [], none, rest.length + 1, rfl, rfl, Nat.le_refl _, by simp, by omega, by rw [hE]; simp, hp⟩ (by omega) ?_)
  rintro μ s37 A7 ⟨rs, bd, dn, a, j, rfl, rfl, hrs, hdn, hj, hev, hp⟩
  unfold f31c9
  obtain ⟨j, rfl⟩ : ∃ i, j = i + 1 := ⟨j - 1, by omega⟩
  rw [entsV] at hev
  refine ev_join (fun jj A' => Hp (tabsOf os) A' (rdr b1 t1 false false rs bd :: .cells b3 (rwC (row0 k) (none, 0, 0) (a, dn.length, dn.length)) t3 false (0, 0) false :: .vec 71 2 false a dn.length dn.length (entC dn) :: .cells b0 (rwC (row0 0) (none, 0, 0) (none, 0, 0)) t0 false (0, 0) false :: l) ∧ jj = (!decide (rs = []) && !bd, ())) ?_ fun go2 hgo2 => ?_
  rotate_left
  ·refine ev_load 0 hp rfl rfl rfl (Nat.le_of_ble_eq_true rfl) (x := BA rs) rfl ?_
   rw [show st0 = BA [] from rfl, BA_seq]
   refine ev_ite (fun h6 => ?_) fun h6 => ?_
   ·refine ev_load 0 hp rfl rfl rfl (Nat.le_of_ble_eq_true rfl) (x := bd) rfl ?_
    exact hgo2 _ A7 ⟨hp, by rw [h6]; rfl⟩
   ·exact hgo2 _ A7 ⟨hp, by rw [h6]; rfl⟩
  rintro _ A8 ⟨hp, rfl⟩
  refine ev_ite (fun h6 => ?_) fun h6 => ?_
  ·have h6 : (!decide (rs = []) && !bd) = true := h6
   have h7 : rs ≠ [] ∧ bd = false := by simpa using h6
   rw [if_neg (by rw [h7.2]; simp [h7.1])] at hev
   have l1 := numberV_short h7.1
   have l2 := wordV_len (numberV rs).2.1
   refine ((numberG rs bd (by omega) hp fun A9 hp => ⟨_, rfl, ?_⟩).mono (show 6 ≤ 8 by decide)).use hn
   refine ev_load 1 hp rfl rfl rfl (Nat.le_of_ble_eq_true rfl) (x := (a, dn.length, dn.length)) rfl ?_
   unfold f31c8
   refine ((wordG _ _ (by omega) hr hp fun A10 hp => ⟨_, rfl, ?_⟩).mono (show 6 ≤ 8 by decide)).use hn
   refine ev_load 1 hp rfl rfl rfl (Nat.le_of_ble_eq_true rfl) (x := (a, dn.length, dn.length)) rfl (ev_cond_t (veqv_sl _) ?_)
   refine ev_new hp fun b44 A11 hp => ?_
   refine ev_append_row 3 0 hp rfl rfl (m := 1) rfl (by decide) (by decide) (by show (2 * (dn.length + 1) + 200) * 24 ≤ _; omega) rfl fun A12 a9 hp => ?_
   refine ev_store 2 hp rfl rfl (Nat.le_of_ble_eq_true rfl) rfl fun A13 hp => ?_
   refine ev_pure ⟨(wordV (numberV rs).2.1).2.1.length, by omega, (wordV (numberV rs).2.1).2.1, (bd || (numberV rs).2.2) || (wordV (numberV rs).2.1).2.2, dn ++ [((numberV rs).1, (wordV (numberV rs).2.1).1)], a9, j, rfl, rfl, by omega, ?_, by omega, ?_, ?_⟩
   ·rw [List.length_append]; simp only [List.length_cons, List.length_nil]; omega
   ·rw [hev, List.append_assoc]; rfl
   ·rw [List.length_append, entC_append]
    exact hp.tail
  ·have h6 : (!decide (rs = []) && !bd) = false := h6
   have h7 : rs = [] ∨ bd = true := by
    by_cases e : rs = []
    ·exact .inl e
    ·right; simpa [e] using h6
   rw [if_pos h7, List.append_nil] at hev
   rw [hev] at hrd
   refine ev_pure (hgo () A8 ⟨[.vec 71 2 false a dn.length dn.length (entC dn)], (none, 0, 0), (a, dn.length, dn.length), ?_, ?_, ?_, ?_⟩)
   ·rw [hrd]; exact hp.perm (.cons _ (.cons _ (.swap ..)))
   ·rw [hrd]; exact .nil
   ·rw [hrd]; exact .vec (List.mem_singleton.2 rfl) (entC_len _)
   ·rw [hrd]
 rw [if_neg (by rw [h5]; decide)] at hrd
 refine ev_join (fun j A' => Hp (tabsOf os) A' (rdr b1 t1 false false rest b :: .cells b3 (rwC (row0 k) (none, 0, 0) (none, 0, 0)) t3 false (0, 0) false :: .cells b0 (rwC (row0 0) (none, 0, 0) (none, 0, 0)) t0 false (0, 0) false :: l) ∧ j = ((eqB k 15 || eqB k 16), ())) ?_ fun go2 hgo2 => ?_
 rotate_left
 ·refine ev_load 1 hp rfl rfl rfl (Nat.le_of_ble_eq_true rfl) (x := k) rfl ?_
  refine ev_ite (fun h6 => hgo2 _ A6 ⟨hp, by rw [h6]; rfl⟩) fun h6 => ?_
  refine ev_load 1 hp rfl rfl rfl (Nat.le_of_ble_eq_true rfl) (x := k) rfl ?_
  exact hgo2 _ A6 ⟨hp, by rw [h6]; rfl⟩
 rintro _ A7 ⟨hp, rfl⟩
 refine ev_ite (fun h6 => ?_) fun h6 => ?_
 ·have h6 : (eqB k 15 || eqB k 16) = true := h6
  rw [if_pos h6] at hrd
  refine ((plainG rest b (by omega) hp fun A8 hp => ⟨_, rfl, ?_⟩).mono (show 5 ≤ 8 by decide)).use hn
  rw [show st23 = BA [121, 101, 115] from rfl, BA_seq]
  refine ev_store 1 hp rfl rfl (Nat.le_of_ble_eq_true rfl) rfl fun A9 hp => ?_
  exact fin A9 _ _ _ hrd hp rfl rfl
 ·have h6 : (eqB k 15 || eqB k 16) = false := h6
  rw [if_neg (by rw [h6]; decide)] at hrd
  exact fin A7 _ _ _ hrd hp rfl rfl
end
end Go.Proofs.YtlcigkdflbfdgaaGreatDoor.sg
namespace Go.Proofs.YtlcigkdflbfdgaaGreatDoor.sg
set_option linter.unusedVariables false
open Go Go.Eng Go.Sh
section
variable {os : List (Nat × AObj)} {A : AW} {Q : Value → AW → Prop} {l : List Thing}
/-- Cells that stand for a row. -/
def RwAt (T : Tabs) (D : List Thing) (c : List Value) (x : Rw) : Prop := ∃ d e : SL, c = rwC x d e ∧ SeesB T D d.1 d.2.1 x.data ∧ RowsAt T D e.1 e.2.1 2 (entC x.ents) ∧ e.2.1 = x.ents.length
theorem RwAt.mono {T : Tabs} {D E : List Thing} {c : List Value} {x : Rw} (h : RwAt T D c x) (hs : ∀ t ∈ D, t ∈ E) : RwAt T E c x := by
 obtain ⟨d, e, h1, h2, h3, h4⟩ := h
 exact ⟨d, e, h1, h2.mono hs, h3.mono hs, h4⟩
theorem cFR (args : List Value) (I : Interp) (ρ : Type) (K : Value → M ρ) : callF CC I 31 args K = M.callS (.tuple [(.agg [(.int .i64), (.int .i64), .bool, .slice, (.int .i64), (.int .i64), (.int .i64), (.int .i64), .slice]), (.cell .bool)]) (I.call (.call 31 args))
  fun x => K ((RSh.tuple [(.agg [(.int .i64), (.int .i64), .bool, .slice, (.int .i64), (.int .i64), (.int .i64), (.int .i64), .slice]), (.cell .bool)]).inj x) := by kernel_rfl
set_option maxRecDepth 20000 in
theorem parsedRG (s : List UInt8) (hs : s.length < 2 ^ 36) (hr : Runes os) (hp : Hp (tabsOf os) A l)
  (H0 : 65536 < s.length → ∀ A', Hp (tabsOf os) A' l → Q (.tuple ⟨[.slice none 0 0, .int .i64 0, .int .i64 3]⟩) A')
  (H1 : s.length ≤ 65536 → ∀ xs A' a L D, parseV rowV s = .ok xs → Hp (tabsOf os) A' (.vec 69 9 false a xs.length xs.length L :: (D ++ l)) → AllAt (RwAt (tabsOf os) D) 9 L xs → Q (.tuple ⟨[.slice a xs.length xs.length, .int .i64 0, .int .i64 0]⟩) A')
  (H2 : s.length ≤ 65536 → ∀ (k : Nat) A', parseV rowV s = .error k → Hp (tabsOf os) A' l → Q (.tuple ⟨[.slice none 0 0, .int .i64 (k : Int), .int .i64 5]⟩) A') :
  Goes (XX os) 10 30 [.string (BA s), .func (.func 31) ⟨[]⟩ ⟨[]⟩] A Q := by
 refine t30 (d := 9) (BA s, .func (.func 31) ⟨[]⟩ ⟨[]⟩, ()) fun n hn => ?_
 unfold f30 f30c3
 simp only [BA_size]
 rw [ltB_lit']
 refine ev_ite (fun h => ?_) fun h => ?_
 ·exact ev_pure (H0 (of_decide_eq_true h) A hp)
 have hlen : s.length ≤ 65536 := by have := of_decide_eq_false h; omega
 clear H0 h
 replace H1 := H1 hlen
 replace H2 := H2 hlen
 refine ev_bind (ev_LL (fun μ st A' => ∃ rest xs a L D, μ = rest.length ∧ st = (BA rest, (a, xs.length, xs.length), ((xs.length + 1 : Nat) : Int), ()) ∧ Hp (tabsOf os) A' (.vec 69 9 false a xs.length xs.length L :: (D ++ l)) ∧ AllAt (RwAt (tabsOf os) D) 9 L xs ∧
  parseV rowV s = behind xs (parseV rowV rest) ∧ xs.length + rest.length ≤ s.length) (m := s.length) ⟨s, [], none, [], [], rfl, rfl, hp.vec0 _ _ _, .nil, (behind_nil _).symm, by simp⟩ (by omega) ?_)
 rintro μ st A2 ⟨rest, xs, a, L, D, rfl, rfl, hp, hall, hpar, hle⟩
 unfold f30c2
 rw [show st0 = BA [] from rfl, BA_seq]
 refine ev_ite (fun h => ?_) fun h => ?_
 rotate_left
 ·-- all is read
  have h : rest = [] := by simpa using h
  subst h
  rw [parse_nil] at hpar
  have hpar : parseV rowV s = .ok xs := by rw [hpar]; simp [behind]
  exact ev_pure (ev_pure (H1 xs A2 a L D hpar hp hall))
 have h : rest ≠ [] := by simpa using h
 rw [show st13 = BA [10] from rfl]
 refine ((cut1G rest 10 (by omega)).mono (show 4 ≤ 9 by decide)).use hn hp (x := (BA (cutV 10 rest).1, BA (cutV 10 rest).2.1, (cutV 10 rest).2.2, ())) rfl fun A3 hp => ?_
 simp only [callV, List.nil_append, List.append_nil]
 rw [cFR]
 have hl1 := cutV_len 10 rest
 refine (rowG (cutV 10 rest).1 (by omega) hr hp fun A4 D' d e hp hsee hro he => ⟨(((readR (cutV 10 rest).1).1.kind, (readR (cutV 10 rest).1).1.err, (readR (cutV 10 rest).1).1.is, d, (readR (cutV 10 rest).1).1.s1, (readR (cutV 10 rest).1).1.s2, (readR (cutV 10 rest).1).1.s3, (readR (cutV 10 rest).1).1.s4, e, ()), rowB (cutV 10 rest).1, ()), rfl, ?_⟩).use hn
 refine ev_need (x := (((readR (cutV 10 rest).1).1.kind, (readR (cutV 10 rest).1).1.err, (readR (cutV 10 rest).1).1.is, d, (readR (cutV 10 rest).1).1.s1, (readR (cutV 10 rest).1).1.s2, (readR (cutV 10 rest).1).1.s3, (readR (cutV 10 rest).1).1.s4, e, ()), rowB (cutV 10 rest).1, ())) rfl ?_
 have hp := hp.perm (l' := .vec 69 9 false a xs.length xs.length L :: ((D' ++ D) ++ l)) (by rw [List.append_assoc]; exact List.perm_middle)
 unfold f30c1
 refine ev_new hp fun b7 A5 hp => ?_
 refine ev_store 0 hp rfl rfl (Nat.le_of_ble_eq_true rfl) rfl fun A6 hp => ?_
 obtain ⟨x, hx⟩ : ∃ x, x = (readR (cutV 10 rest).1).1 := ⟨_, rfl⟩
 rw [← hx] at hp hsee hro he
 obtain ⟨t7, hp⟩ : ∃ t7, Hp (tabsOf os) A6 (.cells b7 (rwC x d e) t7 false (0, 0) false :: .vec 69 9 false a xs.length xs.length L :: ((D' ++ D) ++ l)) := ⟨_, hp⟩
 have bad : parseV rowV rest = .error 1 → ∀ A7, Hp (tabsOf os) A7 (.cells b7 (rwC x d e) t7 false (0, 0) false :: .vec 69 9 false a xs.length xs.length L :: ((D' ++ D) ++ l)) → Q (.tuple ⟨[.slice none 0 0, .int .i64 ((xs.length + 1 : Nat) : Int), .int .i64 5]⟩) A7 := fun he A7 hp => by
  rw [he] at hpar
  exact H2 (xs.length + 1) A7 hpar (hp.sub (.cons _ (.cons _ (List.sublist_append_right _ _))))
 refine ev_join (fun j A' => Hp (tabsOf os) A' (.cells b7 (rwC x d e) t7 false (0, 0) false :: .vec 69 9 false a xs.length xs.length L :: ((D' ++ D) ++ l)) ∧ j = (!((cutV 10 rest).2.2 && rowB (cutV 10 rest).1), ())) ?_ fun go hgo => ?_
 rotate_left
 ·refine ev_ite (fun h1 => hgo _ A6 ⟨hp, ?_⟩) fun h1 => hgo _ A6 ⟨hp, ?_⟩
  ·have h1 : (!(cutV 10 rest).2.2) = true := h1
   have h1 : (cutV 10 rest).2.2 = false := by simpa using h1
   rw [h1]; rfl
  ·have h1 : (!(cutV 10 rest).2.2) = false := h1
   have h1 : (cutV 10 rest).2.2 = true := by simpa using h1
   rw [h1]; rfl
 rintro _ A7 ⟨hp, rfl⟩
 refine ev_ite (fun h1 => ?_) fun h1 => ?_
 ·-- a line that is none
  have h1 : (!((cutV 10 rest).2.2 && rowB (cutV 10 rest).1)) = true := h1
  refine ev_pure (ev_pure (bad ?_ A7 hp))
  cases hc : cutAt 10 rest with
  | none => exact parse_none _ h hc
  | some p =>
   have e2 : cutV 10 rest = (p.1, p.2, true) := by unfold cutV; rw [hc]
   rw [e2] at h1
   refine parse_bad _ hc ?_
   have h1 : rowB p.1 = false := by simpa using h1
   unfold rowV
   rw [h1]; rfl
 ·have h1 : (!((cutV 10 rest).2.2 && rowB (cutV 10 rest).1)) = false := h1
  cases hc : cutAt 10 rest with
  | none =>
   have e2 : cutV 10 rest = (rest, [], false) := by unfold cutV; rw [hc]
   rw [e2] at h1
   simp at h1
  | some p =>
   have e2 : cutV 10 rest = (p.1, p.2, true) := by unfold cutV; rw [hc]
   rw [e2] at h1 hx ⊢
   have h1 : rowB p.1 = true := by simpa using h1
   have hf : rowV p.1 = some x := by unfold rowV; rw [h1, hx]; rfl
   have hcl := cutAt_len hc
   unfold f30c0
   refine ev_load 0 hp rfl rfl rfl (Nat.le_of_ble_eq_true rfl) (x := (x.kind, x.err, x.is, d, x.s1, x.s2, x.s3, x.s4, e, ())) rfl ?_
   refine ev_new hp fun b11 A8 hp => ?_
   refine ev_append_row 2 0 hp rfl rfl (m := 1) rfl (by decide) (by decide) (by show (2 * (xs.length + 1) + 200) * 104 ≤ _; omega) rfl fun A9 a9 hp => ?_
   refine ev_pure ⟨p.2.length, by omega, p.2, xs ++ [x], a9, L ++ rwC x d e, D' ++ D, rfl, ?_, ?_, ?_, ?_, ?_⟩
   ·rw [List.length_append, addW_1 (by omega)]; rfl
   ·rw [List.length_append]; exact hp.tail.tail
   ·exact AllAt.snoc (hall.mono fun c y h => h.mono fun t ht => List.mem_append_right _ ht) rfl ⟨d, e, rfl, hsee.mono fun t ht => List.mem_append_left _ ht, hro.mono fun t ht => List.mem_append_left _ ht, he⟩
   ·rw [hpar, parse_some _ hc hf, behind_snoc]
   ·rw [List.length_append]; simp only [List.length_cons, List.length_nil]; omega
theorem parseRG (s : List UInt8) (hs : s.length < 2 ^ 36) (hr : Runes os) (hp : Hp (tabsOf os) A l)
  (H0 : 65536 < s.length → ∀ A', Hp (tabsOf os) A' l → Q (.tuple ⟨[.slice none 0 0, .int .i64 0, .int .i64 3]⟩) A')
  (H1 : s.length ≤ 65536 → ∀ xs A' a L D, parseV rowV s = .ok xs → Hp (tabsOf os) A' (.vec 69 9 false a xs.length xs.length L :: (D ++ l)) → AllAt (RwAt (tabsOf os) D) 9 L xs → Q (.tuple ⟨[.slice a xs.length xs.length, .int .i64 0, .int .i64 0]⟩) A')
  (H2 : s.length ≤ 65536 → ∀ (k : Nat) A', parseV rowV s = .error k → Hp (tabsOf os) A' l → Q (.tuple ⟨[.slice none 0 0, .int .i64 (k : Int), .int .i64 5]⟩) A') :
  Goes (XX os) 11 15 [.string (BA s)] A Q := by
 refine t15 (d := 10) (BA s, ()) fun n hn => ?_
 simp only [f15]
 exact (parsedRG s hs hr hp (fun h A' hp => ⟨((none, 0, 0), (0 : Int), (3 : Int), ()), rfl, ev_pure (H0 h A' hp)⟩) (fun h xs A' a L D he hp hall => ⟨((a, xs.length, xs.length), (0 : Int), (0 : Int), ()), rfl, ev_pure (H1 h xs A' a L D he hp hall)⟩)
  (fun h k A' he hp => ⟨((none, 0, 0), (k : Int), (5 : Int), ()), rfl, ev_pure (H2 h k A' he hp)⟩)).use hn
end
end Go.Proofs.YtlcigkdflbfdgaaGreatDoor.sg
