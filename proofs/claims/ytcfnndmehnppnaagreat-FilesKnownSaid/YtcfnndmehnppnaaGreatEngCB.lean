/-
  EngCB: checkpoints: a body that is run part by part.
-/
import Derived.Test.YtcfnndmehnppnaaGreatEngCA
namespace Go.Eng
open Go Go.RowKit

/-! ### What has stayed since a world -/
structure Since (w0 : World) (φ : Phi) (w : World) : Prop where
  size : w0.heap.size ≤ w.heap.size
  old : ∀ c, c < w0.heap.size → w.heap[c]? = w0.heap[c]?
  live : ∀ b c ex, φ b = some (some (c, ex)) → w0.heap.size ≤ c
  out : SameOut w0 w
theorem Since.onw {w0 w w' : World} {φ φ' : Phi} {A A' : AW} (h : Since w0 φ w) (o : Onw φ A w φ' A' w') : Since w0 φ' w' where
  size := Nat.le_trans h.size o.size
  old := fun c hc => by
    rw [o.conc c (Nat.lt_of_lt_of_le hc h.size) (fun b ex hb => by have := h.live b c ex hb; omega)]
    exact h.old c hc
  live := fun b c ex hb => by
    by_cases hc : c < w.heap.size
    · obtain ⟨b0, e0, h0⟩ := o.range b c ex hb hc
      exact h.live b0 c e0 h0
    · have := h.size; omega
  out := h.out.trans o.out
theorem Since.below {w0 w : World} {φ : Phi} (h : Since w0 φ w) : Below w0.heap.size w0 w :=
  ⟨h.out.os, h.out.tape, h.out.output, h.size, fun c hc => h.old c hc⟩
theorem Since.start (P : Program) (w : World) : Since w (phi0 P) w :=
  ⟨Nat.le_refl _, fun _ _ => rfl, fun b c ex hb => by unfold phi0 at hb; split at hb <;> simp at hb, SameOut.refl w⟩
section
variable {C : Cfg} {I : Interp} {P : Program}
theorem leavesS {w0 : World} {fn : Func} {tmps : Array Value} {R : Ending → World → Prop} {u : FrameMode} {φ' : Phi} {A' : AW} {tl : List Deferred} (hu : u ≠ .run)
    (fin : ∀ w2, Sim P φ' A' w2 → Since w0 φ' w2 → LeavesInM Fence.wide 0 P fn tmps R tl u w2) : ∀ (ds : List Deferred) (w1 : World), MarksOk w0.heap.size φ' w1 ds → Sim P φ' A' w1 → Since w0 φ' w1 →
    LeavesInM Fence.wide 0 P fn tmps R (ds ++ tl) u w1
  | [], w1, _, hs, ho => fin w1 hs ho
  | d :: ds, w1, hm, hs, ho => by
    obtain ⟨r, h1, h2, h3, h4⟩ := hm.1 d (by simp)
    obtain ⟨w2, hw2⟩ : ∃ w2 : World, w2 = { w1 with heap := w1.heap.setIfInBounds r (.deferred none) } := ⟨_, rfl⟩
    have hsz : w2.heap.size = w1.heap.size := by rw [hw2]; simp
    have hne : ∀ c, c ≠ r → w2.heap[c]? = w1.heap[c]? := fun c hc => by rw [hw2]; simp [Ne.symm hc]
    have hs2 : Sim P φ' A' w2 := ⟨fun b c ex hb => by
      obtain ⟨x, y, k1, k2, k3⟩ := hs.obj b c ex hb
      exact ⟨x, y, k1, by rw [hne c (fun e => h4 b ex (e ▸ hb))]; exact k2, k3⟩, hs.inj, hs.bound, hs.dead, hs.fresh⟩
    have ho2 : Since w0 φ' w2 := ⟨by rw [hsz]; exact ho.size, fun c hc => by rw [hne c (by omega)]; exact ho.old c hc, ho.live, ho.out.trans (by rw [hw2]; exact ⟨rfl, rfl, rfl⟩)⟩
    have hp := hm.2
    simp only [List.map_cons, List.pairwise_cons] at hp
    have hm2 : MarksOk w0.heap.size φ' w2 ds := ⟨fun d' hd' => by
      obtain ⟨r', g1, g2, g3, g4⟩ := hm.1 d' (by simp [hd'])
      have : r' ≠ r := fun e => hp.1 d'.target (List.mem_map.2 ⟨d', hd', rfl⟩) r h1 (e ▸ g1)
      exact ⟨r', g1, g2, by rw [hne r' this]; exact g3, g4⟩, hp.2⟩
    refine ⟨hu, .inl ⟨r, w2, h1, ?_, leavesS hu fin ds w2 hm2 hs2 ho2⟩⟩
    simp only [Instr.takeDeferred, Sem.run_bind, getObj, Sem.run, h3, Result.andThen_ok, setObj, Sem.run_pure, hw2]

/-! ### The parts -/
/-- From here on the body comes to v. -/
def Good (C : Cfg) (fn : Func) (v : Value) (c : Code) (fr : Fr) (H : AW) : Prop := ∀ (w0 : World) (φ : Phi) (w : World) (a : Act), Sim C.P φ H w → FrOk C.P φ fr a → marksD w0.heap.size [] φ w a.defers → fn.ntmps ≤ a.tmps.size → Since w0 φ w →
  c.wpIn (Fw none) 0 C.P (bodyPostM Fence.wide 0 C.P fn fun e w' => e = .returned v ∧ Below w0.heap.size w0 w') a w
noncomputable def bodyK (C : Cfg) (fn : Func) : Exit → Fr → M Value := fun e fr => match e with
  | .normal => evResults C fr (fun vs => M.pure (oneOf vs)) fn.results.toList
  | .ret => evResults C fr (fun vs => M.pure (oneOf vs)) fn.results.toList
  | .exit _ => M.stuck
theorem good_last (hC : COk C) (hI : IOk C.P I) {fn : Func} {v : Value} {c : Code} {df : Bool} {ann : Ann} {fr : Fr} {H A' : AW} (hb : boundIn fn.ntmps c = true) (hv : solid v = true)
    (h : evCode C I fn.ntmps false c df ann Value fr (bodyK C fn) H = .ok v A') : Good C fn v c fr H := by
  intro w0 φ w a hs hf hm hN hw
  have hcode := evCode_sound (ro := none) hC hI (rd := false) (fun _ => rfl) c (marksD w0.heap.size []) df ann Value fr _ φ H w a _ (marksD_stays _ _) (fun _ => marksD_marks _ _) hb hN h (by simp) hs hf hm
  refine wpIn_mono hcode ?_
  have fin : ∀ (a1 : Act) (φ' : Phi) (A1 : AW) (w1 : World) (u' : FrameMode) (ms : List Deferred), Sim C.P φ' A1 w1 → Onw φ H w φ' A1 w1 → MarksOk w0.heap.size φ' w1 ms →
      ((u' = .returning ∧ ∃ fr', Res.ok v A' = evResults C fr' (fun vs => M.pure (oneOf vs)) fn.results.toList A1 ∧ FrOk C.P φ' fr' a1) ∨ (∃ v' x, u' = .panicking [{ v := x, recovered := false }] ∧ VR φ' v' x ∧ Res.ok v A' = .panic v' A1)) →
      LeavesInM Fence.wide 0 C.P fn a1.tmps (fun e w' => e = .returned v ∧ Below w0.heap.size w0 w') ms u' w1 := by
    intro a1 φ' A1 w1 u' ms h1 h2 h3 h4
    have := leavesS (tl := []) (w0 := w0) (fn := fn) (tmps := a1.tmps) (R := fun e w' => e = .returned v ∧ Below w0.heap.size w0 w') (u := u') (φ' := φ') (A' := A1) (P := C.P) (by rcases h4 with ⟨rfl, _⟩ | ⟨_, _, rfl, _⟩ <;> simp) (fun w2 s2 o2 => ?_) ms w1 h3 h1 (hw.onw h2)
    · simpa using this
    · rcases h4 with ⟨rfl, fr', hr', hf'⟩ | ⟨v', x, rfl, hv', hr'⟩
      · have main : ∀ g : ResultVar → Sem Value, (∀ t, g (.tmp t) = pure (a1.tmps.getD t undef)) → (∀ x t, g (.cell x t) = (do loadVar t (← asAddr (a1.tmps.getD x undef)))) →
            ∃ x, (do let vs ← fn.results.mapM g; pure (if h : vs.size = 1 then vs[0] else .tuple vs) : Sem Value).run C.P w2 = .ok x w2 ∧ (Ending.returned x = .returned v ∧ Below w0.heap.size w0 w2) := by
          intro g g1 g2
          obtain ⟨vs, us', k1, k2, k3⟩ := evResults_sound g1 g2 (K := fun vs => M.pure (oneOf vs)) hr'.symm (by simp) s2 hf'
          have k1 : Res.ok v A' = .ok (oneOf vs) A1 := k1
          injection k1 with e1 e2
          have hsame := solid_same (show solid (oneOf vs) = true by rw [← e1]; exact hv) (oneOf_VR k3)
          refine ⟨if h : us'.toArray.size = 1 then us'.toArray[0] else .tuple us'.toArray, ?_, by rw [hsame, e1], o2.below⟩
          rw [Sem.run_bind, Array.mapM_eq_mapM_toList, Sem.run_map, k2]
          rfl
        exact main _ (fun _ => rfl) (fun _ _ => rfl)
      · cases hr'
  rintro e a1 w1 (⟨φ', A1, h1, h2, ⟨ms, hms, _, h3⟩, h4⟩ | ⟨_, u, (⟨rfl, rfl⟩ | ⟨ch, rfl, rfl⟩), hp⟩)
  · rw [List.append_nil] at hms
    subst hms
    rcases h4 with ⟨e', fr', g1, g2, g3, g4⟩ | ⟨v', u, rfl, g1, g2, _⟩
    · cases e' <;> cases e <;> first | exact g1.elim | skip
      · exact fin a1 φ' A1 w1 .returning _ h1 h2 h3 (.inl ⟨rfl, fr', g2, g3⟩)
      · cases (show Res.ok v A' = .stuck from g2)
      · exact fin a1 φ' A1 w1 .returning _ h1 h2 h3 (.inl ⟨rfl, fr', g2, g3⟩)
    · cases g2
  · exact hp fn _ fun φ' A1 w' u' ds k1 k2 k3 k4 => by
      obtain ⟨ms, rfl, _, hmk⟩ := k3
      rw [List.append_nil]
      exact fin a1 φ' A1 w' u' ms k1 k2 hmk k4
  · exact hp fn _ fun φ' A1 w' u' ds k1 k2 k3 k4 => by
      obtain ⟨ms, rfl, _, hmk⟩ := k3
      rw [List.append_nil]
      exact fin a1 φ' A1 w' u' ms k1 k2 hmk k4
/-- The slots that go on. -/
def takeE (ts : List Nat) (env : Slots) : Slots := ts.filterMap fun t => (look t env).map fun v => (t, v)
theorem look_takeE {env : Slots} {t : Nat} {v : Value} : ∀ {ts : List Nat}, look t (takeE ts env) = some v → look t env = some v
  | [], h => by simp [takeE, look] at h
  | s :: ts, h => by
    unfold takeE at h
    rw [List.filterMap_cons] at h
    cases hs : look s env with
    | none => rw [hs] at h; exact look_takeE h
    | some x =>
      rw [hs] at h
      simp only [Option.map_some, look_cons] at h
      by_cases e : s = t
      · subst e; rw [if_pos rfl] at h; rw [hs]; exact h
      · rw [if_neg e] at h; exact look_takeE h
noncomputable def takeP (ts : List Nat) : Fr → M Slots := fun fr => M.pure (takeE ts fr.env)
def eqSlots : Slots → Slots → Bool
  | [], [] => true
  | (t, x) :: l, (u, y) :: m => Nat.beq t u && eqV 5 x y && eqSlots l m
  | _, _ => false
theorem eqSlots_eq : ∀ {l m : Slots}, eqSlots l m = true → l = m
  | [], [], _ => rfl
  | [], _ :: _, h => by cases h
  | _ :: _, [], h => by cases h
  | (t, x) :: l, (u, y) :: m, h => by
    simp only [eqSlots, Bool.and_eq_true] at h
    rw [Nat.eq_of_beq_eq_true h.1.1, eqV_eq _ _ _ h.1.2, eqSlots_eq h.2]
/-- A part's run has come to these slots and this heap. -/
noncomputable def partOk (lits : Slots) (os : List (Nat × AObj)) (next : Nat) : Res Slots → Bool
  | .ok env A => eqSlots env lits && agrees A next os
  | _ => false
theorem good_lay {fn : Func} {v : Value} {y : Code} {fr : Fr} {H : AW} {ts : List Nat} {lits : Slots} {os : List (Nat × AObj)} {next : Nat} (h : partOk lits os next (takeP ts fr H) = true) (hG : Good C fn v y ⟨lits⟩ (layW os next)) : Good C fn v y fr H := by
  intro w0 φ w a hs hf hm hN hw
  have h : (eqSlots (takeE ts fr.env) lits && agrees H next os) = true := h
  simp only [Bool.and_eq_true] at h
  obtain ⟨h1, h2⟩ := h
  have h1 := eqSlots_eq h1
  obtain ⟨ψ, l1, l2, l3⟩ := hs.lay h2
  refine hG w0 ψ w a l2 ⟨fun t z hz => ?_, hf.glob.mono l1⟩ ?_ hN ⟨hw.size, hw.old, fun b c ex hb' => hw.live b c ex (l3 b c ex hb'), hw.out⟩
  · have hz : look t (takeE ts fr.env) = some z := by rw [h1]; exact hz
    obtain ⟨u, hu, hzu⟩ := hf.env t z (look_takeE hz)
    exact ⟨u, hu, hzu.mono l1⟩
  · obtain ⟨ms, m1, m2, m3⟩ := hm
    refine ⟨ms, m1, m2, fun d hd => ?_, m3.2⟩
    obtain ⟨r, q1, q2, q3, q4⟩ := m3.1 d hd
    exact ⟨r, q1, q2, q3, fun b ex hb' => q4 b ex (l3 b r ex hb')⟩
noncomputable def thenK {ρ : Type} (m : Fr → M ρ) : Exit → Fr → M ρ := fun e fr => match e with
  | .normal => m fr
  | _ => M.stuck
theorem good_seq {ρ : Type} (hC : COk C) (hI : IOk C.P I) {fn : Func} {v : Value} {x y : Code} {ann : Ann} {fr : Fr} {H : AW} {m : Fr → M ρ} {env : ρ} {A' : AW} (hb : boundIn fn.ntmps x = true)
    (h : evCode C I fn.ntmps false x false ann ρ fr (thenK m) H = .ok env A') (hG : ∀ fr' A1, m fr' A1 = .ok env A' → Good C fn v y fr' A1) : Good C fn v (.seq x y) fr H := by
  intro w0 φ w a hs hf hm hN hw
  have hcode := evCode_sound (ro := none) hC hI (rd := false) (fun _ => rfl) x (marksD w0.heap.size []) false ann ρ fr _ φ H w a _ (marksD_stays _ _) (fun _ => marksD_marks _ _) hb hN h (by simp) hs hf hm
  refine wpIn_seq (wpIn_mono hcode ?_)
  rintro e a1 w1 (⟨φ', A1, k1, k2, k3, k4⟩ | ⟨hx, _⟩)
  rotate_left
  · cases hx
  rcases k4 with ⟨e', fr', g1, g2, g3, g4⟩ | ⟨v', u, rfl, g1, g2, _⟩
  · cases e' <;> cases e <;> first | exact g1.elim | skip
    · exact hG fr' A1 g2.symm w0 φ' w1 a1 k1 g3 k3 (by rw [g4.1]; exact hN) (hw.onw k2)
    · cases (show Res.ok env A' = .stuck from g2)
    · cases (show Res.ok env A' = .stuck from g2)
  · cases g2
noncomputable def evPre {ρ : Type} (C : Cfg) (I : Interp) (N : Nat) (K : Fr → M ρ) : List (Code × Ann) → Fr → M ρ
  | [] => K
  | (x, ann) :: l => fun fr => evCode C I N false x false ann ρ fr (thenK (evPre C I N K l))
def seqs : List (Code × Ann) → Code → Code
  | [], y => y
  | (x, _) :: l, y => .seq x (seqs l y)
theorem good_pre (hC : COk C) (hI : IOk C.P I) {fn : Func} {v : Value} {y : Code} {ts : List Nat} {lits : Slots} {os : List (Nat × AObj)} {next : Nat} (hG : Good C fn v y ⟨lits⟩ (layW os next)) :
    ∀ (l : List (Code × Ann)) (fr : Fr) (H : AW), boundIn fn.ntmps (seqs l y) = true → partOk lits os next (evPre C I fn.ntmps (takeP ts) l fr H) = true → Good C fn v (seqs l y) fr H
  | [], _, _, _, h => good_lay h hG
  | (x, ann) :: l, fr, H, hb, h => by
    simp only [seqs, boundIn, Bool.and_eq_true] at hb
    obtain ⟨r, hr⟩ : ∃ r, r = evPre C I fn.ntmps (takeP ts) ((x, ann) :: l) fr H := ⟨_, rfl⟩
    rw [← hr] at h
    cases r with
    | stuck => cases h
    | panic _ _ => cases h
    | ok env A' =>
      refine good_seq hC hI hb.1 (m := evPre C I fn.ntmps (takeP ts) l) hr.symm fun fr' A1 h1 => ?_
      exact good_pre hC hI hG l fr' A1 hb.2 (by rw [h1]; exact h)
def takeSeq : Nat → Code → Ann → List (Code × Ann)
  | k + 1, .seq a b, ann => (a, (annPair ann).1) :: takeSeq k b (annPair ann).2
  | _, _, _ => []
def restSeq : Nat → Code → Ann → Code × Ann
  | k + 1, .seq _ b, ann => restSeq k b (annPair ann).2
  | _, c, ann => (c, ann)
theorem seqs_take : ∀ (k : Nat) (c : Code) (ann : Ann), seqs (takeSeq k c ann) (restSeq k c ann).1 = c
  | 0, c, ann => by cases c <;> rfl
  | k + 1, c, ann => by
    cases c with
    | seq a b => simp only [takeSeq, restSeq, seqs, seqs_take k b]
    | _ => rfl
theorem good_cut (hC : COk C) (hI : IOk C.P I) {fn : Func} {v : Value} {c : Code} {ann : Ann} {fr : Fr} {H : AW} {ts : List Nat} {lits : Slots} {os : List (Nat × AObj)} {next : Nat} (k : Nat) (hb : boundIn fn.ntmps c = true)
    (h : partOk lits os next (evPre C I fn.ntmps (takeP ts) (takeSeq k c ann) fr H) = true) (hG : Good C fn v (restSeq k c ann).1 ⟨lits⟩ (layW os next)) : Good C fn v c fr H := by
  have := good_pre hC hI hG (takeSeq k c ann) fr H (by rw [seqs_take]; exact hb) h
  rwa [seqs_take] at this
theorem good_end (hC : COk C) (hI : IOk C.P I) {fn : Func} {v : Value} {c : Code} {df : Bool} {ann : Ann} {fr : Fr} {H : AW} (hb : boundIn fn.ntmps c = true) (hv : solid v = true)
    (h : resIsV v (evCode C I fn.ntmps false c df ann Value fr (bodyK C fn) H) = true) : Good C fn v c fr H := by
  obtain ⟨A', hr⟩ := resIsV_ok h
  exact good_last hC hI hb hv hr
theorem good_calls {f : FuncId} {fn : Func} {v : Value} {c : Code} (hfn : C.P.funcs[f]? = some fn) (hb : fn.body = some c) (hG : Good C fn v c ⟨[]⟩ (start0 C.P)) (w : World) :
    CallsIn Fence.wide 0 C.P f #[] w fun e w' => e = .returned v ∧ Below w.heap.size w w' := by
  refine callsIn_of_wp_marks hfn hb trivial (hG w (phi0 C.P) w _ (sim0 C.P w) ⟨fun t z hz => (by cases hz), glob0 C.P⟩ (marksD_nil [] (Nat.le_refl _)) ?_ (Since.start C.P w))
  simp
theorem iok_iterX {C : Cfg} (hC : COk C) {T : Tree Entry} {k : Nat} {S : Sums} (hT : AllT (Entry.ok C (Lw k)) T 0 1) (hS : SumsOk C.P S) (n : Nat) : IOk C.P { call := iterX C T (Lw k) S n, loop := Lw k } := by
  rw [iterX_eq hT]
  exact iok_iterS hC (lok_whileN k) hS n
end
end Go.Eng
