/-
 The engine, part 13: what a function of the program comes to over an abstract heap; each part is proved against the model.
-/
import Derived.Test.YtlcigkdflbfdgaaGreatDoorEng12
namespace Go.Eng
open Go
variable {P : Program} {φ : Phi} {A : AW} {ρ : Type} {r : Res ρ} {w : World}
theorem FzR.freeze {fz fz' : Nat × Nat} {ish : Bool} {m o n : Nat} (h : FzR fz ish fz' m) (hi : (ish && Nat.beq fz.1 fz.2) = false) (hn : 0 < n) :
  FzR (cond (Nat.beq fz.1 fz.2) (o, o + n) (min fz.1 o, max fz.2 (o + n))) true (frz fz' o n) m := by
 obtain ⟨h1, h2, h3, h4⟩ := h
 cases hb : Nat.beq fz.1 fz.2 with
 | true =>
  rw [hb, Bool.and_true] at hi
  have := h3 hi
  have he : frz fz' o n = (o, o + n) := by simp [frz, this]
  rw [he]
  simp only [cond_true]
  exact ⟨fun _ => .inr ⟨Nat.le_refl _, Nat.le_refl _⟩, fun e => by simp only at e; omega, (fun e => by cases e), by simp only; omega⟩
 | false =>
  have hne : fz.1 ≠ fz.2 := fun e => by rw [e] at hb; simp at hb
  have h1 := h1 hne
  simp only [cond_false]
  unfold frz
  refine ⟨fun _ => .inr ?_, fun e => by simp only at e; omega, (fun e => by cases e), ?_⟩
  ·split
   ·simp only; omega
   ·rename_i h9
    have h9 : fz'.1 ≠ fz'.2 := by simpa using h9
    simp only; omega
  ·split
   ·simp only; omega
   ·simp only; omega
theorem run_loadBytes : ∀ (ns : List Int) (c : Addr) (acc : ByteArray), (∀ i u, (ns.map (Value.int .u8))[i]? = some u → w.cell? (c.add i) = some u) →
  (loadBytes c acc ns.length).run P w = .ok (ns.foldl (fun r n => r.push (UInt8.ofNat n.toNat)) acc) w
 | [], c, acc, _ => rfl
 | n :: ns, c, acc, h => by
  have h0 : w.cell? c = some (.int .u8 n) := by
   have := h 0 (.int .u8 n) rfl
   simpa [Addr.add] using this
  have hadd : ∀ i, (c.add 1).add i = c.add (i + 1) := by
   intro i
   unfold Addr.add
   obtain ⟨b, o, s⟩ := c
   by_cases hi : i = 0
   ·subst hi; simp
   ·simp only [hi, if_false]; cases s <;> simp [Nat.add_assoc, Nat.add_comm 1 i]
  have ih := run_loadBytes ns (c.add 1) (acc.push (n.toNat.toUInt8)) (fun i u hu => by rw [hadd]; exact h (i + 1) u (by simpa using hu))
  simp only [List.length_cons, loadBytes, Sem.run_bind, run_load, h0, Result.andThen_ok, List.foldl_cons]
  exact ih
theorem liesAt_self {u : TypeId} {n off count : Nat} (hs : sizeT P u = some 1) (h : off + n ≤ count) : liesAt P P.depth u count off u n = true := by
 have hd : P.depth = (P.depth - 1) + 1 := by unfold Program.depth; omega
 have hc : P.cellsOf u = 1 := by
  obtain ⟨_, i, hi, hi1⟩ := sizeT_some hs
  simp [Program.cellsOf, hi, hi1]
 have : rowAt P (fun x => sameLayout P P.depth x u) P.depth u count off n = true := by
  rw [hd, rowAt]
  have hsl : sameLayout P (P.depth - 1 + 1) u u = true := by rw [sameLayout]; simp
  simp only [hc, Nat.div_one, Nat.mod_one, ← hd]
  rw [← hd] at hsl
  simp [hsl, h]
 rw [hd, liesAt, this]
 rfl
theorem unsafeStr_sound {t ty u : TypeId} {p : Option Addr} {n : Int} {kn : IntKind} {up : Value} {argTypes : Array TypeId} {K : Value → M ρ}
  (h : M.unsafeStr u (match P.underlying u with
   | some (.int .u8) => isOne (sizeT P u)
   | _ => false) p n (fun s => K (.string s)) A = r) (hr : r ≠ .stuck) (hs : Sim P φ A w) (h0 : argTypes[0]? = some t) (hu : P.underlying t = some (.pointer u))
  (hv : VR φ (.pointer p) up) : DoesV P φ A w r K (Builtin.unsafeString_ argTypes ty #[up, .int kn n]) := by
 unfold M.unsafeStr at h
 have hi64 : IntKind.i64.max = 9223372036854775807 := by decide
 cases hv with
 | nilPtr =>
  simp only at h
  cases hn : decide (n = 0) with
  | false => rw [hn] at h; exact absurd h.symm hr
  | true =>
   rw [hn] at h
   obtain rfl := of_decide_eq_true hn
   refine ⟨_, A, φ, w, .string .empty, h.symm, ?_, hs, .string _, Onw.refl _ _ _⟩
   delta Builtin.unsafeString_
   unfold Builtin.unsafeString_.match_3
   simp only [List.size_toArray, List.length_cons, List.length_nil, dite_true, Array.getLit, List.getElem_toArray, List.getElem_cons_zero, List.getElem_cons_succ, Builtin.unsafeString_._sparseCasesOn_3]
   simp [asInt, asIntOf, h0, hi64]
 | @ptr a c hac =>
  simp only at h
  cases hn : decide (n = 0) with
  | true =>
   rw [hn] at h
   obtain rfl := of_decide_eq_true hn
   refine ⟨_, A, φ, w, .string .empty, h.symm, ?_, hs, .string _, Onw.refl _ _ _⟩
   delta Builtin.unsafeString_
   unfold Builtin.unsafeString_.match_3
   simp only [List.size_toArray, List.length_cons, List.length_nil, dite_true, Array.getLit, List.getElem_toArray, List.getElem_cons_zero, List.getElem_cons_succ, Builtin.unsafeString_._sparseCasesOn_3]
   simp [asInt, asIntOf, h0, hi64]
  | false =>
   rw [hn] at h
   simp only [cond_false] at h
   have hn0 : ¬ n = 0 := of_decide_eq_false hn
   generalize hib : (match P.underlying u with
    | some (.int .u8) => isOne (sizeT P u)
    | _ => false) = ib at h
   cases hc1 : (ib && decide (0 < n) && decide (n < 9223372036854775807)) with
   | false => rw [hc1] at h; exact absurd h.symm hr
   | true =>
    rw [hc1] at h
    simp only [Bool.and_eq_true, decide_eq_true_eq] at hc1
    obtain ⟨⟨rfl, hn1⟩, hn2⟩ := hc1
    have hs1 : sizeT P u = some 1 := by
     split at hib
     ·exact isOne_eq hib
     ·cases hib
    simp only [cond_true] at h
    cases hf : A.freezeRow u a n.toNat with
    | none => rw [hf] at h; exact absurd h.symm hr
    | some q =>
     rw [hf] at h
     obtain ⟨s, A'⟩ := q
     simp only at h
     unfold AW.freezeRow at hf
     cases hg : A.get a.block with
     | none => rw [hg] at hf; cases hf
     | some o =>
      rw [hg] at hf
      cases o with
      | cells cs e g fz ish =>
       simp only at hf
       obtain ⟨hb, hf9⟩ := cond_some hf
       clear hf
       simp only [Bool.and_eq_true, Bool.not_eq_true'] at hb
       obtain ⟨he, hish⟩ := hb
       obtain rfl := Nat.eq_of_beq_eq_true he
       have hf := hf9
       clear hf9
       cases hbc : (A.cellsAt a n.toNat).bind bytesOfCells with
       | none => rw [hbc] at hf; cases hf
       | some l =>
        rw [hbc] at hf
        simp only [Option.some.injEq, Prod.mk.injEq] at hf
        obtain ⟨rfl, rfl⟩ := hf
        obtain ⟨vs, hvs, hl⟩ := Option.bind_eq_some_iff.1 hbc
        obtain ⟨us, k1, k2, k3, k4⟩ := hs.loads hac hvs
        obtain ⟨ns, rfl, rfl⟩ := bytesOf_Rs hl k2
        obtain ⟨ex, o', hφ, ho, hsp, hc, arr, fz', rfl, hsz, hrs, hgx, hfr⟩ := hs.liveA hac hg
        obtain ⟨cs1, e1, g1, fz1, ish1, hg', hsp', hle, _⟩ := cellsAt_some hvs
        rw [hg] at hg'
        simp only [Option.some.injEq, AObj.cells.injEq] at hg'
        obtain ⟨rfl, rfl, rfl, rfl, rfl⟩ := hg'
        obtain ⟨w', m1, m2, m3, m4⟩ := run_freeze_at (P := P) (c := c) (n := n.toNat) (by omega) hc
        obtain ⟨t1, t2⟩ := hs.put (o := .cells cs e g (cond (Nat.beq fz.1 fz.2) (a.off, a.off + n.toNat) (min fz.1 a.off, max fz.2 (a.off + n.toNat))) true) hφ m2 m3 m4 ⟨arr, _, rfl, hsz, hrs, hgx, by
         rw [← ho]; exact hfr.freeze hish (by omega)⟩
        refine ⟨_, _, φ, w', .string (ns.foldl (fun r n => r.push (UInt8.ofNat n.toNat)) ByteArray.empty), h.symm, ?_, t1, by rw [foldl_push_empty]; exact .string _, t2⟩
        have hshape : w.shape? c.block = some (e, arr.size) := by simp [World.shape?, hc]
        have hcell : P.cellsOf e = 1 := by
         obtain ⟨_, i, hi, hi1⟩ := sizeT_some hs1
         simp [Program.cellsOf, hi, hi1]
        have hva : (variablesAt c e n.toNat).run P w = .ok true w := by
         simp only [variablesAt, Sem.run_bind, run_program, run_shape, hshape, Result.andThen_ok, Sem.run_pure, hcell, Nat.div_one]
         rw [liesAt_self hs1 (by omega)]
        have hlen : ns.length = n.toNat := by simpa using k3
        have hlb := run_loadBytes (P := P) (w := w) ns c ByteArray.empty k4
        rw [hlen] at hlb
        have h1 : ¬ n < 0 := by omega
        have h2 : ¬ n > IntKind.i64.max := by rw [hi64]; omega
        delta Builtin.unsafeString_
        unfold Builtin.unsafeString_.match_3
        simp only [List.size_toArray, List.length_cons, List.length_nil, dite_true, Array.getLit, List.getElem_toArray, List.getElem_cons_zero, List.getElem_cons_succ, Builtin.unsafeString_._sparseCasesOn_3]
        simp only [asInt, asIntOf, Sem.run_bind, Sem.run_pure, Result.andThen_ok, h0, if_neg h1, if_neg h2, if_neg hn0, elemOf, run_und hu, hva, hlb, m1, if_true]
      | _ => cases hf
end Go.Eng
