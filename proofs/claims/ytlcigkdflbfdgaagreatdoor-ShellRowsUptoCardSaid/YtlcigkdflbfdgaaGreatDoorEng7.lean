/-
 The engine, part 7: what a function of the program comes to over an abstract heap; each part is proved against the model.
-/
import Derived.Test.YtlcigkdflbfdgaaGreatDoorEng6
namespace Go.Eng
open Go
variable {P : Program} {φ : Phi} {A : AW} {ρ : Type} {r : Res ρ}
def OptR (φ : Phi) : Option Value → Option Value → Prop
 | none, none => True
 | some v, some u => VR φ v u
 | _, _ => False
theorem bound_run {k : IntKind} {i : Int} {y : Nat} {code : BoundsCode} {w : World} (h0 : 0 ≤ i) (h1 : i ≤ y) : (Instr.sliceBound (.int k i) y code).run P w = .ok i.toNat w := by
 simp [Instr.sliceBound, asIntOf, h0, h1]
theorem bounds3_ok {len cap : Nat} {lo hi mx lo' hi' mx' : Option Value} {K : Nat → Nat → Nat → M ρ} (h : bounds3 len cap lo hi mx K A = r) (hr : r ≠ .stuck)
  (hl : OptR φ lo lo') (hh : OptR φ hi hi') (hm : OptR φ mx mx') :
  ∃ l t m, r = K l t m A ∧ l ≤ t ∧ m ≤ cap ∧ (hi = none → t = len) ∧ (hi ≠ none → t ≤ m) ∧ (mx = none → m = cap) ∧ (mx ≠ none → hi ≠ none) ∧
   ∀ (b : Bool) (cap' : Nat) (w : World), cap ≤ cap' → (Instr.sliceBounds b len cap' lo' hi' mx').run P w = .ok (l, t, if mx = none then cap' else m) w := by
 rw [bounds3_eq] at h
 have low : ∀ (t m : Nat), (match lo with
   | none => K 0 t m
   | some (.int _ l) => M.guard (decide (0 ≤ l) && decide (l ≤ (t : Int))) (K l.toNat t m)
   | _ => M.stuck) A = r → ∃ l, r = K l t m A ∧ l ≤ t ∧ ∀ (w : World) (code : BoundsCode), ((match lo' with
    | some v => Instr.sliceBound v t code
    | none => pure 0) : Sem Nat).run P w = .ok l w := by
  intro t m h
  cases lo with
  | none =>
   cases lo' with
   | some v => exact hl.elim
   | none => exact ⟨0, h.symm, Nat.zero_le _, fun w _ => rfl⟩
  | some v =>
   cases lo' with
   | none => exact hl.elim
   | some u =>
    cases (hl : VR φ v u) with
    | int k i =>
     obtain ⟨hb, h⟩ := guard_ok h hr
     simp only [Bool.and_eq_true, decide_eq_true_eq] at hb
     exact ⟨_, h.symm, by omega, fun w code => bound_run hb.1 hb.2⟩
    | _ => exact stuck_ok (A := A) h hr
 cases mx with
 | none =>
  cases mx' with
  | some v => exact hm.elim
  | none =>
   cases hi with
   | none =>
    cases hi' with
    | some v => exact hh.elim
    | none =>
     obtain ⟨l, h1, h2, h3⟩ := low len cap h
     refine ⟨l, len, cap, h1, h2, Nat.le_refl _, fun _ => rfl, fun e => absurd rfl e, fun _ => rfl, fun e => absurd rfl e, fun b cap' w _ => ?_⟩
     have := h3 w .sliceB
     simp only [Instr.sliceBounds, Sem.run_bind, Sem.run_pure, Result.andThen_ok, Option.isSome_none, Bool.false_eq_true, if_false, if_true]
     cases lo' <;> simp_all
   | some v =>
    cases hi' with
    | none => exact hh.elim
    | some u =>
     cases (hh : VR φ v u) with
     | int k i =>
      obtain ⟨hb, h⟩ := guard_ok h hr
      simp only [Bool.and_eq_true, decide_eq_true_eq] at hb
      obtain ⟨l, h1, h2, h3⟩ := low i.toNat cap h
      refine ⟨l, i.toNat, cap, h1, h2, Nat.le_refl _, (fun e => by cases e), fun _ => by omega, fun _ => rfl, fun e => absurd rfl e, fun b cap' w hc => ?_⟩
      have := h3 w .sliceB
      have h5 : (Instr.sliceBound (.int k i) cap' (if b = true then .sliceAcap else .sliceAlen)).run P w = .ok i.toNat w := bound_run hb.1 (by omega)
      simp only [Instr.sliceBounds, Sem.run_bind, Sem.run_pure, Result.andThen_ok, h5, Option.isSome_none, Bool.false_eq_true, if_false, if_true]
      cases lo' <;> simp_all
     | _ => exact stuck_ok (A := A) h hr
 | some v =>
  cases mx' with
  | none => exact hm.elim
  | some u =>
   cases (hm : VR φ v u) with
   | int k i =>
    obtain ⟨hb, h⟩ := guard_ok h hr
    simp only [Bool.and_eq_true, decide_eq_true_eq] at hb
    cases hi with
    | none =>
     cases hi' with
     | some v => exact hh.elim
     | none => exact stuck_ok (A := A) h hr
    | some v2 =>
     cases hi' with
     | none => exact hh.elim
     | some u2 =>
      cases (hh : VR φ v2 u2) with
      | int k2 j =>
       obtain ⟨hb2, h⟩ := guard_ok h hr
       simp only [Bool.and_eq_true, decide_eq_true_eq] at hb2
       obtain ⟨l, h1, h2, h3⟩ := low j.toNat i.toNat h
       refine ⟨l, j.toNat, i.toNat, h1, h2, by omega, (fun e => by cases e), fun _ => by omega, (fun e => by cases e), (fun _ e => by cases e), fun b cap' w hc => ?_⟩
       have := h3 w .slice3C
       have h5 : (Instr.sliceBound (.int k i) cap' (if b = true then .slice3Acap else .slice3Alen)).run P w = .ok i.toNat w := bound_run hb.1 (by omega)
       have h6 : (Instr.sliceBound (.int k2 j) i.toNat .slice3B).run P w = .ok j.toNat w := bound_run hb2.1 (by omega)
       simp only [Instr.sliceBounds, Sem.run_bind, Result.andThen_ok, h5, h6, Option.isSome_some, if_true, reduceCtorEq, if_false]
       cases lo' <;> simp_all
      | _ => exact stuck_ok (A := A) h hr
   | _ => exact stuck_ok (A := A) h hr
theorem SR.slice {φ : Phi} {a c : Addr} {n cap cap' l t m m' sz : Nat} (h : SR φ a n cap c cap') (hlt : l ≤ t) (htm : t ≤ m) (hm : (m = cap ∧ m' = cap') ∨ (m' = m ∧ m ≤ cap)) :
  SR φ (a.add (l * sz)) (t - l) (m - l) (if m' = l then c else c.add (l * sz)) (m' - l) := by
 obtain ⟨hle, x, hx, hx2⟩ := h
 refine ⟨⟨by omega, by omega⟩, x, by unfold Addr.add; split <;> exact hx, fun d e he => ⟨?_, ?_⟩⟩
 ·rcases (hx2 d e he).1 with h1 | h1 <;> rcases hm with ⟨h2, h3⟩ | ⟨h2, h3⟩ <;> omega
 ·by_cases hz : m' = l
  ·exact .inl (by omega)
  ·rw [if_neg hz]
   rcases (hx2 d e he).2 with ⟨h1, _⟩ | ⟨h1, h2, h3⟩
   ·omega
   ·right
    unfold Addr.add
    split
    ·exact ⟨h1, h2, h3⟩
    ·exact ⟨by simp [h1], rfl, h3⟩
theorem aSlice_sound {t : TypeId} {v u : Value} {lo hi mx lo' hi' mx' : Option Value} {K : Value → M ρ} (h : aSlice P t v lo hi mx K A = r) (hr : r ≠ .stuck) (hv : VR φ v u)
  (hl : OptR φ lo lo') (hh : OptR φ hi hi') (hm : OptR φ mx mx') : Pure P φ A r K (Instr.sliceAt t u lo' hi' mx') := by
 unfold aSlice at h
 cases hu : P.underlying t with
 | none => rw [hu] at h; exact stuck_ok (A := A) h hr
 | some d =>
  rw [hu] at h
  cases d with
  | string =>
   cases hv with
   | string s =>
    simp only at h
    cases mx with
    | some x => exact stuck_ok (A := A) h hr
    | none =>
     cases mx' with
     | some y => exact hm.elim
     | none =>
      simp only [Option.isNone_none, cond_true] at h
      obtain ⟨l, b, m, h1, h2, h3, h4, h5, h6, _, h7⟩ := bounds3_ok (φ := φ) (P := P) h hr hl hh (mx' := none) trivial
      refine ⟨_, _, h1, fun w => ?_, .string _⟩
      have := h7 false s.size w (Nat.le_refl _)
      simp [Instr.sliceAt, Instr.slice, run_und hu, this]
   | _ => exact stuck_ok (A := A) h hr
  | slice e =>
   cases hv with
   | slice n hs =>
    simp only at h
    cases hn : sizeT P e with
    | none => rw [hn] at h; exact stuck_ok (A := A) h hr
    | some sz =>
     rw [hn] at h
     rename_i a c cap cap'
     obtain ⟨l, b, m, h1, h2, h3, h4, h5, h6, h6', h7⟩ := bounds3_ok (φ := φ) (P := P) h hr hl hh hm
     have hle := hs.1
     obtain ⟨cc, hcc⟩ : ∃ cc, cc = (if mx = none then cap' else m) := ⟨_, rfl⟩
     have h8 := fun w => h7 true cap' w hle.2
     rw [← hcc] at h8
     refine ⟨_, .slice (some (if cc = l then c else c.add (l * sz))) (b - l) (cc - l), h1, fun w => ?_, ?_⟩
     ·simp only [Instr.sliceAt, Instr.slice, Sem.run_bind, run_und hu, Result.andThen_ok, h8 w, run_size hn]
      by_cases e : cc = l <;> simp [e]
     ·simp only [Option.map_some]
      have hbm : b ≤ m := by
       by_cases hhi : hi = none
       ·have hmx : mx = none := by
         cases mx with
         | none => rfl
         | some x => exact absurd hhi (h6' (by simp))
        have := h4 hhi
        have := h6 hmx
        omega
       ·exact h5 hhi
      refine .slice _ (SR.slice hs h2 hbm ?_)
      by_cases hmx : mx = none
      ·rw [if_pos hmx] at hcc; exact .inl ⟨h6 hmx, hcc⟩
      ·rw [if_neg hmx] at hcc; exact .inr ⟨hcc, h3⟩
   | nilSlice hnc =>
    rename_i n c
    simp only at h
    cases hn : sizeT P e with
    | none => rw [hn] at h; exact stuck_ok (A := A) h hr
    | some sz =>
     rw [hn] at h
     obtain ⟨l, b, m, h1, h2, h3, h4, h5, h6, h6', h7⟩ := bounds3_ok (φ := φ) (P := P) h hr hl hh hm
     have hbm : b ≤ m := by
      by_cases hhi : hi = none
      ·have hmx : mx = none := by
        cases mx with
        | none => rfl
        | some x => exact absurd hhi (h6' (by simp))
       have := h4 hhi
       have := h6 hmx
       omega
      ·exact h5 hhi
     have h8 := fun w => h7 true c w (Nat.le_refl _)
     have hcc : (if mx = none then c else m) = m := by
      by_cases hmx : mx = none
      ·rw [if_pos hmx, h6 hmx]
      ·rw [if_neg hmx]
     rw [hcc] at h8
     refine ⟨_, .slice none (b - l) (m - l), h1, fun w => ?_, .nilSlice (by omega)⟩
     simp only [Instr.sliceAt, Instr.slice, Sem.run_bind, run_und hu, Result.andThen_ok, h8 w, run_size hn]
     simp
   | _ => exact stuck_ok (A := A) h hr
  | array n e =>
   cases hv with
   | ptr hc =>
    simp only at h
    cases hn : sizeT P e with
    | none => rw [hn] at h; exact stuck_ok (A := A) h hr
    | some sz =>
     rw [hn] at h
     simp only [M.deref] at h
     rename_i a c
     obtain ⟨l, b, m, h1, h2, h3, h4, h5, h6, h6', h7⟩ := bounds3_ok (φ := φ) (P := P) h hr hl hh hm
     have hbm : b ≤ m := by
      by_cases hhi : hi = none
      ·have hmx : mx = none := by
        cases mx with
        | none => rfl
        | some x => exact absurd hhi (h6' (by simp))
       have := h4 hhi
       have := h6 hmx
       omega
      ·exact h5 hhi
     have h8 := fun w => h7 false n w (Nat.le_refl _)
     have hcc : (if mx = none then n else m) = m := by
      by_cases hmx : mx = none
      ·rw [if_pos hmx, h6 hmx]
      ·rw [if_neg hmx]
     rw [hcc] at h8
     refine ⟨_, .slice (some (if m = l then c else c.add (l * sz))) (b - l) (m - l), h1, fun w => ?_, .slice _ ?_⟩
     ·simp only [Instr.sliceAt, Sem.run_bind, run_und hu, Result.andThen_ok, h8 w, run_size hn, Instr.sureAddr, Sem.run_pure]
     ·obtain ⟨x, hx, hx2⟩ := hc
      refine ⟨⟨by omega, Nat.le_refl _⟩, x, by unfold Addr.add; split <;> exact hx, fun d e he => ⟨.inl rfl, ?_⟩⟩
      obtain ⟨k1, k2, k3⟩ := hx2 d e he
      by_cases hz : m = l
      ·exact .inl (by omega)
      ·rw [if_neg hz]
       right
       unfold Addr.add
       split
       ·exact ⟨k1, k2, k3⟩
       ·exact ⟨by simp [k1], rfl, k3⟩
   | nilPtr => exact stuck_ok (A := A) (by simp only at h; cases hn : sizeT P e <;> (rw [hn] at h; exact h)) hr
   | _ => exact stuck_ok (A := A) h hr
  | _ => exact stuck_ok (A := A) h hr
end Go.Eng
