/-
  EngU: functions, rounds, levels.
-/
import Derived.Test.YtcfnndmehnppnaaGreatEngT
namespace Go.Eng
open Go
section
variable {C : Cfg} {I : Interp} {φ : Phi} {A : AW} {ρ : Type} {r : Res ρ} {w : World} {ro : Option Nat} {P : Program} {a : Act} {base : Nat}

theorem look_argSlots : ∀ (vs : List Value) (i t : Nat), look t (argSlots i vs) = if i ≤ t then vs[t - i]? else none
  | [], i, t => by simp [argSlots, look]
  | v :: vs, i, t => by
    simp only [argSlots, look_cons]
    rw [look_argSlots vs (i + 1) t]
    by_cases h : i = t
    · subst h; simp
    · rw [if_neg h]
      by_cases h2 : i ≤ t
      · rw [if_pos h2, if_pos (by omega), show t - i = (t - (i + 1)) + 1 by omega]; simp
      · rw [if_neg h2, if_neg (by omega)]
theorem evResults_sound {fr : Fr} {g : ResultVar → Sem Value} (g1 : ∀ t, g (.tmp t) = pure (a.tmps.getD t undef)) (g2 : ∀ x t, g (.cell x t) = (do loadVar t (← asAddr (a.tmps.getD x undef)))) :
    ∀ {l : List ResultVar} {K : List Value → M ρ}, evResults C fr K l A = r → r ≠ .stuck → Sim C.P φ A w → FrOk C.P φ fr a → ∃ vs us, r = K vs A ∧ (l.mapM g).run C.P w = .ok us w ∧ Rs φ vs us
  | [], K, h, hr, hs, hf => ⟨[], [], h.symm, by simp, Rs.nil⟩
  | .tmp t :: l, K, h, hr, hs, hf => by
    simp only [evResults] at h
    obtain ⟨v, hv, h⟩ := need_ok h hr
    obtain ⟨u, hu, hvu⟩ := hf.env t v hv
    obtain ⟨vs, us, h1, h2, h3⟩ := evResults_sound g1 g2 h hr hs hf
    refine ⟨v :: vs, u :: us, h1, ?_, Rs.cons hvu h3⟩
    have : a.tmps.getD t undef = u := by simp [Array.getD_eq_getD_getElem?, hu]
    simp only [List.mapM_cons, g1, this, Sem.run_bind, Sem.run_pure, Result.andThen_ok, h2]
  | .cell x t :: l, K, h, hr, hs, hf => by
    simp only [evResults] at h
    cases hx : look x fr.env with
    | none => rw [hx] at h; exact stuck_ok (A := A) h hr
    | some v =>
      rw [hx] at h
      cases hn : sizeT C.P t with
      | none => rw [hn] at h; exact stuck_ok (A := A) (by cases v <;> exact h) hr
      | some n =>
        rw [hn] at h
        obtain ⟨u, hu, hvu⟩ := hf.env x v hx
        have hg : a.tmps.getD x undef = u := by simp [Array.getD_eq_getD_getElem?, hu]
        cases v with
        | pointer p =>
          simp only at h
          obtain ⟨b, rfl, h⟩ := deref_ok h hr
          cases hvu with
          | @ptr _ c hac =>
            obtain ⟨q, q', e1, e2, e3⟩ := load_sound (K := fun v => evResults C fr (fun vs => K (v :: vs)) l) h hr hs hac hn
            obtain ⟨vs, us, h1, h2, h3⟩ := evResults_sound g1 g2 e1.symm hr hs hf
            refine ⟨q :: vs, q' :: us, h1, ?_, Rs.cons e3 h3⟩
            have hga : (asAddr (a.tmps.getD x undef)).run C.P w = .ok c w := by rw [hg]; rfl
            simp only [List.mapM_cons, g2, hga, Sem.run_bind, Sem.run_pure, Result.andThen_ok, e2, h2]
        | _ => exact stuck_ok (A := A) h hr
theorem oneOf_VR {vs us : List Value} (h : Rs φ vs us) : VR φ (oneOf vs) (if h : us.toArray.size = 1 then us.toArray[0] else .tuple us.toArray) := by
  match vs, us, h with
  | [], us, h => obtain rfl := h.nil_inv; exact .tuple rfl (fun i x y hx => by simp at hx)
  | [v], us, h =>
    obtain ⟨y, k, rfl, h1, h2⟩ := h.cons_inv
    obtain rfl := h2.nil_inv
    exact h1
  | v :: v' :: l, us, h =>
    obtain ⟨y, k, rfl, h1, h2⟩ := h.cons_inv
    obtain ⟨y', k', rfl, h3, h4⟩ := h2.cons_inv
    rw [dif_neg (by simp)]
    exact .tuple h.1 h.2

/-- Marks are taken away. -/
theorem leavesM {fn : Func} {tmps : Array Value} {R : Ending → World → Prop} {u : FrameMode} {φ' : Phi} {A' : AW} (hu : u ≠ .run)
    (fin : ∀ w2, Sim P φ' A' w2 → Onw φ A w φ' A' w2 → LeavesIn Fence.wide 0 P fn tmps R [] u w2) : ∀ (ds : List Deferred) (w1 : World), MarksOk w.heap.size φ' w1 ds → Sim P φ' A' w1 → Onw φ A w φ' A' w1 →
    LeavesInM Fence.wide 0 P fn tmps R ds u w1
  | [], w1, _, hs, ho => fin w1 hs ho
  | d :: ds, w1, hm, hs, ho => by
    obtain ⟨r, h1, h2, h3, h4⟩ := hm.1 d (by simp)
    have hlt := (Array.getElem?_eq_some_iff.1 h3).1
    obtain ⟨w2, hw2⟩ : ∃ w2 : World, w2 = { w1 with heap := w1.heap.setIfInBounds r (.deferred none) } := ⟨_, rfl⟩
    have hsz : w2.heap.size = w1.heap.size := by rw [hw2]; simp
    have hne : ∀ c, c ≠ r → w2.heap[c]? = w1.heap[c]? := fun c hc => by rw [hw2]; simp [Ne.symm hc]
    have hs2 : Sim P φ' A' w2 := ⟨fun b c ex hb => by
      obtain ⟨x, y, k1, k2, k3⟩ := hs.obj b c ex hb
      exact ⟨x, y, k1, by rw [hne c (fun e => h4 b ex (e ▸ hb))]; exact k2, k3⟩, hs.inj, hs.bound, hs.dead, hs.fresh⟩
    have ho2 : Onw φ A w φ' A' w2 := ⟨ho.le, by rw [hsz]; exact ho.size, ho.next, fun c hc hn => by rw [hne c (by omega)]; exact ho.conc c hc hn, ho.range, ho.virt, ho.out.trans (by rw [hw2]; exact ⟨rfl, rfl, rfl⟩)⟩
    have hp := hm.2
    simp only [List.map_cons, List.pairwise_cons] at hp
    have hm2 : MarksOk w.heap.size φ' w2 ds := ⟨fun d' hd' => by
      obtain ⟨r', g1, g2, g3, g4⟩ := hm.1 d' (by simp [hd'])
      have : r' ≠ r := fun e => hp.1 d'.target (List.mem_map.2 ⟨d', hd', rfl⟩) r h1 (e ▸ g1)
      exact ⟨r', g1, g2, by rw [hne r' this]; exact g3, g4⟩, hp.2⟩
    refine ⟨hu, .inl ⟨r, w2, h1, ?_, leavesM hu fin ds w2 hm2 hs2 ho2⟩⟩
    simp only [Instr.takeDeferred, Sem.run_bind, getObj, Sem.run, h3, Result.andThen_ok, setObj, Sem.run_pure, hw2]

theorem evBody_sound (hC : COk C) (hI : IOk C.P I) {f : FuncId} {args us : List Value} {r : Res Value} (h : evBody C I f args A = r) (hr : r ≠ .stuck) (hg : GlobOk C.P φ) (hs : Sim C.P φ A w) (ha : Rs φ args us) :
    CallsIn Fence.wide 0 C.P f us.toArray w (CallEnd C.P φ A w r) := by
  unfold evBody at h
  cases hfn : C.P.funcs[f]? with
  | none => rw [hfn] at h; exact stuck_ok (A := A) h hr
  | some fn =>
    rw [hfn] at h
    simp only at h
    cases hb : fn.body with
    | none => rw [hb] at h; exact stuck_ok (A := A) h hr
    | some c =>
      rw [hb] at h
      simp only at h
      obtain ⟨hbd, h⟩ := condM_ok h hr
      have hsz : fn.ntmps ≤ (us.toArray ++ Array.replicate (fn.ntmps - us.toArray.size) undef).size := by simp; omega
      have hfr : FrOk C.P φ ⟨argSlots 0 args⟩ { tmps := us.toArray ++ Array.replicate (fn.ntmps - us.toArray.size) undef, defers := [] } := ⟨fun t v hv => by
        simp only [look_argSlots, Nat.zero_le, if_true, Nat.sub_zero] at hv
        obtain ⟨u, hu, hvu⟩ := ha.get hv
        have hlt := (List.getElem?_eq_some_iff.1 hu).1
        refine ⟨u, ?_, hvu⟩
        rw [Array.getElem?_append_left (by simpa using hlt)]
        simpa using hu, hg⟩
      have hcode := evCode_sound (ro := none) (base := w.heap.size) hC hI (rd := false) (fun _ => rfl) c (C.ann f) Value ⟨argSlots 0 args⟩ _ φ A w _ r hbd hsz h hr hs hfr (MarksOk.nil _ _ _) (Nat.le_refl _)
      refine callsIn_of_wp_marks hfn hb trivial (wpIn_mono hcode ?_)
      rintro e a1 w1 ⟨φ', A', h1, h2, h3, h4⟩
      have finR : ∀ fr', r = evResults C fr' (fun vs => M.pure (oneOf vs)) fn.results.toList A' → FrOk C.P φ' fr' a1 → LeavesInM Fence.wide 0 C.P fn a1.tmps (CallEnd C.P φ A w r) a1.defers .returning w1 := by
        intro fr' hr' hf'
        refine leavesM (by simp) (fun w2 s2 o2 => ?_) a1.defers w1 h3 h1 h2
        have main : ∀ g : ResultVar → Sem Value, (∀ t, g (.tmp t) = pure (a1.tmps.getD t undef)) → (∀ x t, g (.cell x t) = (do loadVar t (← asAddr (a1.tmps.getD x undef)))) →
            ∃ v, (do let vs ← fn.results.mapM g; pure (if h : vs.size = 1 then vs[0] else .tuple vs) : Sem Value).run C.P w2 = .ok v w2 ∧ CallEnd C.P φ A w r (.returned v) w2 := by
          intro g g1 g2
          obtain ⟨vs, us', k1, k2, k3⟩ := evResults_sound g1 g2 (K := fun vs => M.pure (oneOf vs)) hr'.symm hr s2 hf'
          refine ⟨_, ?_, oneOf vs, φ', A', k1, oneOf_VR k3, s2, o2⟩
          rw [Sem.run_bind, Array.mapM_eq_mapM_toList, Sem.run_map, k2]
          rfl
        exact main _ (fun _ => rfl) (fun _ _ => rfl)
      rcases h4 with ⟨e', fr', g1, g2, g3, g4⟩ | ⟨v, u, rfl, g1, g2⟩
      · cases e' <;> cases e <;> first | exact g1.elim | skip
        · exact finR fr' g2 g3
        · exact absurd g2 hr
        · exact finR fr' g2 g3
      · have fin : ∀ w2, Sim C.P φ' A' w2 → Onw φ A w φ' A' w2 → LeavesIn Fence.wide 0 C.P fn a1.tmps (CallEnd C.P φ A w r) [] (.panicking [{ v := u, recovered := false }]) w2 := by
          intro w2 s2 o2
          exact ⟨v, u, φ', A', g2, rfl, g1, s2, o2⟩
        exact leavesM (by simp) fin a1.defers w1 h3 h1 h2

/-! ### Rounds -/
theorem bindParams_sound : ∀ {ts : List Tmp} {vs us : List Value} {e env : Slots} {tm : Array Value}, bindParams ts vs e = some env → EnvR φ e tm → Rs φ vs us → (∀ t ∈ ts, t < tm.size) →
    EnvR φ env ((ts.zip us).foldl (fun tm p => tm.setIfInBounds p.1 p.2) tm) ∧ ((ts.zip us).foldl (fun tm p => tm.setIfInBounds p.1 p.2) tm).size = tm.size ∧ ts.length = us.length
  | [], [], us, e, env, tm, h, he, hr, _ => by
    obtain rfl := hr.nil_inv
    simp only [bindParams, Option.some.injEq] at h
    subst h
    exact ⟨he, rfl, rfl⟩
  | [], _ :: _, us, e, env, tm, h, _, _, _ => by simp [bindParams] at h
  | _ :: _, [], us, e, env, tm, h, _, _, _ => by simp [bindParams] at h
  | t :: ts, v :: vs, us, e, env, tm, h, he, hr, ht => by
    obtain ⟨u, us', rfl, h1, h2⟩ := hr.cons_inv
    simp only [bindParams] at h
    have he' : EnvR φ ((t, v) :: e) (tm.setIfInBounds t u) :=
      he.put (fr := ⟨e⟩) (fr' := ⟨(t, v) :: e⟩) (dst := some t) (fun x => by simp only [look_cons, Option.some.injEq]) h1 (fun d hd => by simp at hd; subst hd; exact ht t (by simp))
    obtain ⟨k1, k2, k3⟩ := bindParams_sound h he' h2 (fun x hx => by simp; exact ht x (by simp [hx]))
    refine ⟨k1, ?_, by simp [k3]⟩
    simp only [List.zip_cons_cons, List.foldl_cons, k2]
    simp
theorem run_getLoop {c : Nat} {l : Loop} (h : w.heap[c]? = some (.loop l)) : (Instr.getLoop c).run P w = .ok l w := by simp [Instr.getLoop, getObj, Sem.run, h]
theorem run_setLoop {c : Nat} {l : Loop} (h : w.heap[c]? = some (.loop l)) (o : Obj) :
    ∃ w', (setObj c o).run P w = .ok () w' ∧ Sz w w' ∧ (∀ d, d ≠ c → w'.heap[d]? = w.heap[d]?) ∧ w'.heap[c]? = some o := by
  have hlt := (Array.getElem?_eq_some_iff.1 h).1
  exact ⟨{ w with heap := w.heap.setIfInBounds c o }, by simp [setObj, Sem.run, h], ⟨by simp, rfl, rfl, rfl⟩, fun d hd => by simp [Ne.symm hd], by simp [hlt]⟩
theorem bindP_only {m : M Value} {r : Res Value} (h : M.bindP m M.pure (fun _ => M.stuck) A = r) (hr : r ≠ .stuck) : ∃ ri, m A = ri ∧ ri ≠ .stuck ∧ r = ri ∧ ∀ v A', ri ≠ .panic v A' := by
  unfold M.bindP at h
  cases hq : m A with
  | stuck => rw [hq] at h; exact absurd h.symm hr
  | panic v A' => rw [hq] at h; exact absurd h.symm hr
  | ok v A' => rw [hq] at h; exact ⟨_, rfl, by simp, h.symm, by simp⟩
theorem evRound_sound (hC : COk C) (hI : IOk C.P I) {l : Nat} {args us : List Value} {c : Nat} {r : Res Value} (h : evRound C I l args A = r) (hr : r ≠ .stuck) (hg : GlobOk C.P φ) (hs : Sim C.P φ A w) (hbr : BR φ l c) (ha : Rs φ args us) :
    ∃ f tmps assign body, (Instr.yield c us.toArray).run C.P w = .ok (.round c f tmps assign body) w ∧ RoundIn Fence.wide 0 C.P c f tmps assign body w (CallEnd C.P φ A w r) := by
  unfold evRound at h
  cases hga : A.get l with
  | none => rw [hga] at h; exact absurd h.symm hr
  | some oa =>
    rw [hga] at h
    cases oa with
    | loop rl =>
      simp only at h
      obtain ⟨ex, o', hφ, hw, lo, rfl, l1, l2, l3, l4, l5, l6, l7⟩ := hs.liveB hbr hga
      cases hst : rl.state with
      | ready =>
        rw [hst] at h
        cases hbp : bindParams rl.params args rl.env with
        | none => rw [hbp] at h; exact absurd h.symm hr
        | some env =>
          rw [hbp] at h
          simp only at h
          obtain ⟨hc, h⟩ := condM_ok h hr
          simp only [Bool.and_eq_true] at hc
          obtain ⟨⟨hc1, hc2⟩, hc3⟩ := hc
          have hts : ∀ t ∈ rl.params, t < lo.tmps.size := fun t ht => by
            have h9 : Nat.blt t rl.bound = true := List.all_eq_true.1 hc3 t ht
            have h8 : t < rl.bound := by simpa using h9
            exact Nat.lt_of_lt_of_le h8 l3
          obtain ⟨b1, b2, b3⟩ := bindParams_sound hbp l4 ha hts
          obtain ⟨tm, htm⟩ : ∃ tm, tm = (rl.params.zip us).foldl (fun tm p => tm.setIfInBounds p.1 p.2) lo.tmps := ⟨_, rfl⟩
          rw [← htm] at b1 b2
          have hz : (lo.params.zip us.toArray).foldl (fun tmps (x : Tmp × Value) => match x with | (t, a) => tmps.setIfInBounds t a) lo.tmps = tm := by
            rw [← Array.foldl_toList, htm, Array.toList_zip, l5]
          have hsz : us.toArray.size = lo.params.size := by
            have : lo.params.toList.length = us.length := by rw [l5]; exact b3
            simp at this ⊢; omega
          refine ⟨lo.fn, tm, lo.assign, lo.body, ?_, ?_⟩
          · have hne : ¬ (us.toArray.size ≠ lo.params.size) := fun hn => hn hsz
            simp only [Instr.yield, Sem.run_bind, run_getLoop hw, Result.andThen_ok, if_neg hne, Sem.run_pure, hz]
          · rw [l6, l7]
            refine roundIn_of_wpIn trivial ?_
            -- the assignment
            obtain ⟨ri, hri, hrs, hre, hrp⟩ := bindP_only h hr
            rw [hre]
            have hassign := evCode_sound (ro := some c) (base := w.heap.size) hC hI (rd := true) (by simp) rl.assign (annPair rl.ann).1 Value ⟨env⟩ _ φ A w { tmps := tm, defers := [] } ri hc1 (by simp only; omega) hri hrs hs ⟨b1, hg⟩ (MarksOk.nil _ _ _) (Nat.le_refl _)
            refine wpIn_mono hassign ?_
            rintro e a1 w1 ⟨φ', A', h1, h2, h3, h4⟩
            rcases h4 with ⟨e', fr', g1, g2, g3, g4⟩ | ⟨v, u, rfl, g1, g2⟩
            · cases e' <;> cases e <;> first | exact g1.elim | exact absurd g2 hrs | skip
              simp only [roundK] at g2
              unfold M.beginLoop at g2
              cases hga1 : A'.get l with
              | none => rw [hga1] at g2; exact absurd g2 hrs
              | some oa1 =>
                rw [hga1] at g2
                cases oa1 with
                | loop r1 =>
                  simp only at g2
                  obtain ⟨ex1, o1', hφ1, hw1, lo1, rfl, m1, m2, m3, m4, m5, m6, m7⟩ := h1.liveB (hbr.mono h2.le) hga1
                  cases hst1 : r1.state with
                  | ready =>
                    rw [hst1] at g2
                    simp only at g2
                    obtain ⟨w2, s1, s2, s3, s4⟩ := run_setLoop (P := C.P) hw1 (.loop { lo1 with state := .busy })
                    obtain ⟨t1, t2⟩ := h1.put (o := .loop { r1 with state := .busy }) hφ1 s2 s3 s4 ⟨_, rfl, rfl, m2, m3, m4, m5, m6, m7⟩
                    refine ⟨w2, ?_, ?_⟩
                    · simp only [Instr.beginRound, Sem.run_bind, run_getLoop hw1, Result.andThen_ok, s1, m1, hst1, Sem.run_pure]
                    · generalize A'.put l (.loop { r1 with state := .busy }) = Ab at g2 t1 t2
                      have hbodyw := evCode_sound (ro := some c) (base := w.heap.size) hC hI (rd := true) (by simp) rl.body (annPair rl.ann).2 Value fr' _ φ' Ab w2 a1 ri hc2 (by rw [g4.1]; simp only; omega) g2.symm hrs t1 ⟨(g3.mono t2.le).env, (g3.mono t2.le).glob⟩ (h3.onw t2) (by rw [s2.1]; exact h2.size)
                      refine wpIn_mono hbodyw ?_
                      rintro e a2 w3 ⟨φ2, A2, p1, p2, p3, p4⟩
                      rcases p4 with ⟨e', fr2, q1, q2, q3, q4⟩ | ⟨v, u, rfl, q1, q2⟩
                      · have endR : ∀ (s : LoopState) (pc : Option Code) (b : Bool), ri = M.setLoop l s pc (M.pure (.bool b)) A2 → s = (if pc.isNone then .ready else .done) → b = pc.isNone →
                            ∃ v w', (Instr.endRound c pc).run C.P w3 = .ok v w' ∧ CallEnd C.P φ A w ri (.returned v) w' := by
                          intro s pc b hq hs' hb'
                          unfold M.setLoop at hq
                          cases hga2 : A2.get l with
                          | none => rw [hga2] at hq; exact absurd hq hrs
                          | some oa2 =>
                            rw [hga2] at hq
                            cases oa2 with
                            | loop r2 =>
                              simp only at hq
                              obtain ⟨ex2, o2', hφ2, hw2', lo2, rfl, n1, n2, n3, n4, n5, n6, n7⟩ := p1.liveB ((hbr.mono h2.le).mono (t2.trans p2).le) hga2
                              obtain ⟨w4, v1, v2, v3, v4⟩ := run_setLoop (P := C.P) hw2' (.loop { lo2 with state := if pc.isNone then .ready else .done, pending := pc })
                              obtain ⟨y1, y2⟩ := p1.put (o := .loop { r2 with state := s, pending := pc }) hφ2 v2 v3 v4 ⟨_, rfl, hs'.symm, rfl, n3, n4, n5, n6, n7⟩
                              refine ⟨.bool pc.isNone, w4, ?_, .bool b, φ2, _, hq, by rw [hb']; exact .bool _, y1, h2.trans (t2.trans (p2.trans y2))⟩
                              simp only [Instr.endRound, Sem.run_bind, run_getLoop hw2', Result.andThen_ok, v1, Sem.run_pure]
                            | _ => exact absurd hq hrs
                        cases e' <;> cases e <;> first | exact q1.elim | skip
                        · exact endR .ready none true q2 rfl rfl
                        · rename_i i i'
                          obtain rfl : i = i' := q1
                          exact endR .done (some (.exit i)) false q2 rfl rfl
                        · exact endR .done (some .ret) false q2 rfl rfl
                      · exact absurd q2 (hrp v A2)
                  | _ => rw [hst1] at g2; exact absurd g2 hrs
                | _ => exact absurd g2 hrs
            · exact absurd g2 (hrp v A')
      | _ => rw [hst] at h; exact absurd h.symm hr
    | _ => exact absurd h.symm hr

/-! ### Levels -/
def LOk (L : LoopI) : Prop := ∀ {σ ρ : Type} (f : σ → M (σ ⊕ ρ)) s A r, L f s A = r → r ≠ .stuck → ∃ n, whileN f n s A = r
theorem iok_iter (hC : COk C) {L : LoopI} (hL : LOk L) : ∀ n, IOk C.P { call := iter C L n, loop := L }
  | 0 => ⟨fun _ _ _ _ h hr => absurd h.symm hr, fun _ _ _ _ h hr => absurd h.symm hr, hL⟩
  | n + 1 => ⟨fun _ _ _ _ h hr _ _ _ hg hs ha => evBody_sound hC (iok_iter hC hL n) h hr hg hs ha,
      fun _ _ _ _ h hr _ _ _ _ hg hs hb ha => evRound_sound hC (iok_iter hC hL n) h hr hg hs hb ha, hL⟩
/-- WHAT THE ENGINE TELLS OF A CALL, THE MACHINE DOES. -/
theorem iter_sound (hC : COk C) {L : LoopI} (hL : LOk L) {n : Nat} {f : FuncId} {args us : List Value} {r : Res Value} (h : iter C L n (.call f args) A = r) (hr : r ≠ .stuck) (hg : GlobOk C.P φ) (hs : Sim C.P φ A w) (ha : Rs φ args us) :
    Calls C.P f us.toArray w (CallEnd C.P φ A w r) :=
  callsIn_wide.1 ((iok_iter hC hL n).call f args A r h hr φ w us hg hs ha)
end
end Go.Eng
