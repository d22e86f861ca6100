/-
 The engine, part 24: what a function of the program comes to over an abstract heap; each part is proved against the model.
-/
import Derived.Test.YtlcigkdflbfdgaaGreatDoorEng23
import Derived.RecoverIn
namespace Go.Eng
open Go
section
variable {C : Cfg} {I : Interp} {φ : Phi} {A : AW} {ρ : Type} {r : Res ρ} {w : World} {ro : Option Nat} {P : Program} {a : Act} {base : Nat}
theorem look_argSlots : ∀ (vs : List Value) (i t : Nat), look t (argSlots i vs) = if i ≤ t then vs[t - i]? else none
 | [], i, t => by simp [argSlots, look]
 | v :: vs, i, t => by
  simp only [argSlots, look_cons]
  rw [look_argSlots vs (i + 1) t]
  by_cases h : i = t
  ·subst h; simp
  ·rw [if_neg h]
   by_cases h2 : i ≤ t
   ·rw [if_pos h2, if_pos (by omega), show t - i = (t - (i + 1)) + 1 by omega]; simp
   ·rw [if_neg h2, if_neg (by omega)]
theorem evResults_sound {fr : Fr} {g : ResultVar → Sem Value} (g1 : ∀ t, g (.tmp t) = pure (a.tmps.getD t undef)) (g2 : ∀ x t, g (.cell x t) = (do loadVar t (← asAddr (a.tmps.getD x undef)))) :
  ∀ {l : List ResultVar} {K : List Value → M ρ}, evResults C fr K l A = r → r ≠ .stuck → Sim C.P φ A w → FrOk C.P φ fr a → ∃ vs us, r = K vs A ∧ (l.mapM g).run C.P w = .ok us w ∧ Rs φ vs us
 | [], K, h, hr, hs, hf => ⟨[], [], h.symm, by simp, Rs.nil⟩
 | .tmp t :: l, K, h, hr, hs, hf => by
  simp only [evResults] at h
  obtain ⟨v, hv, h⟩ := need_ok h hr
  obtain ⟨u, hu, hvu⟩ := hf.env t v hv
  obtain ⟨vs, us, h1, h2, h3⟩ := evResults_sound g1 g2 h hr hs hf
  refine ⟨v :: vs, u :: us, h1, ?_, Rs.cons hvu h3⟩
  have : a.tmps.getD t undef = u := by simp [Array.getD_eq_getD_getElem?, hu]
  simp only [List.mapM_cons, g1, this, Sem.run_bind, Sem.run_pure, Result.andThen_ok, h2]
 | .cell x t :: l, K, h, hr, hs, hf => by
  simp only [evResults] at h
  cases hx : look x fr.env with
  | none => rw [hx] at h; exact stuck_ok (A := A) h hr
  | some v =>
   rw [hx] at h
   cases hn : sizeT C.P t with
   | none => rw [hn] at h; exact stuck_ok (A := A) (by cases v <;> exact h) hr
   | some n =>
    rw [hn] at h
    obtain ⟨u, hu, hvu⟩ := hf.env x v hx
    have hg : a.tmps.getD x undef = u := by simp [Array.getD_eq_getD_getElem?, hu]
    cases v with
    | pointer p =>
     simp only at h
     obtain ⟨b, rfl, h⟩ := deref_ok h hr
     cases hvu with
     | @ptr _ c hac =>
      obtain ⟨q, q', e1, e2, e3⟩ := load_sound (K := fun v => evResults C fr (fun vs => K (v :: vs)) l) h hr hs hac hn
      obtain ⟨vs, us, h1, h2, h3⟩ := evResults_sound g1 g2 e1.symm hr hs hf
      refine ⟨q :: vs, q' :: us, h1, ?_, Rs.cons e3 h3⟩
      have hga : (asAddr (a.tmps.getD x undef)).run C.P w = .ok c w := by rw [hg]; rfl
      simp only [List.mapM_cons, g2, hga, Sem.run_bind, Sem.run_pure, Result.andThen_ok, e2, h2]
    | _ => exact stuck_ok (A := A) h hr
theorem oneOf_VR {vs us : List Value} (h : Rs φ vs us) : VR φ (oneOf vs) (if h : us.toArray.size = 1 then us.toArray[0] else .tuple us.toArray) := by
 match vs, us, h with
 | [], us, h => obtain rfl := h.nil_inv; exact .tuple rfl (fun i x y hx => by simp at hx)
 | [v], us, h =>
  obtain ⟨y, k, rfl, h1, h2⟩ := h.cons_inv
  obtain rfl := h2.nil_inv
  exact h1
 | v :: v' :: l, us, h =>
  obtain ⟨y, k, rfl, h1, h2⟩ := h.cons_inv
  obtain ⟨y', k', rfl, h3, h4⟩ := h2.cons_inv
  rw [dif_neg (by simp)]
  exact .tuple h.1 h.2
theorem evBody_sound (hC : COk C) (hI : IOk C.P I) {f : FuncId} {args us : List Value} {r : Res Value} (h : evBody C I f args A = r) (hr : r ≠ .stuck) (hg : GlobOk C.P φ) (hs : Sim C.P φ A w) (ha : Rs φ args us) :
  CallsIn Fence.wide 0 C.P f us.toArray w (CallEnd C.P φ A w r) := by
 unfold evBody at h
 cases hfn : C.P.funcs[f]? with
 | none => rw [hfn] at h; exact stuck_ok (A := A) h hr
 | some fn =>
  rw [hfn] at h
  simp only at h
  cases hb : fn.body with
  | none => rw [hb] at h; exact stuck_ok (A := A) h hr
  | some c =>
   rw [hb] at h
   simp only at h
   obtain ⟨hbd, h⟩ := condM_ok h hr
   have hsz : fn.ntmps ≤ (us.toArray ++ Array.replicate (fn.ntmps - us.toArray.size) undef).size := by simp; omega
   have hfr : FrOk C.P φ ⟨argSlots 0 args⟩ { tmps := us.toArray ++ Array.replicate (fn.ntmps - us.toArray.size) undef, defers := [] } := ⟨fun t v hv => by
    simp only [look_argSlots, Nat.zero_le, if_true, Nat.sub_zero] at hv
    obtain ⟨u, hu, hvu⟩ := ha.get hv
    have hlt := (List.getElem?_eq_some_iff.1 hu).1
    refine ⟨u, ?_, hvu⟩
    rw [Array.getElem?_append_left (by simpa using hlt)]
    simpa using hu, hg⟩
   have hcode := evCode_sound (ro := none) hC hI (rd := false) (fun _ => rfl) c (marksD w.heap.size []) true (C.ann f) Value ⟨argSlots 0 args⟩ _ φ A w _ r (marksD_stays _ _) (fun _ => marksD_marks _ _) hbd hsz h hr hs hfr (marksD_nil [] (Nat.le_refl _))
   refine callsIn_of_wp_marks hfn hb trivial (wpIn_mono hcode ?_)
   have fin : ∀ (a1 : Act) (φ' : Phi) (A' : AW) (w1 : World) (u' : FrameMode) (ms : List Deferred), Sim C.P φ' A' w1 → Onw φ A w φ' A' w1 → MarksOk w.heap.size φ' w1 ms →
     ((u' = .returning ∧ ∃ fr', r = evResults C fr' (fun vs => M.pure (oneOf vs)) fn.results.toList A' ∧ FrOk C.P φ' fr' a1) ∨ (∃ v x, u' = .panicking [{ v := x, recovered := false }] ∧ VR φ' v x ∧ r = .panic v A')) →
     LeavesInM Fence.wide 0 C.P fn a1.tmps (CallEnd C.P φ A w r) ms u' w1 := by
    intro a1 φ' A' w1 u' ms h1 h2 h3 h4
    have := leavesM (tl := []) (fn := fn) (tmps := a1.tmps) (R := CallEnd C.P φ A w r) (u := u') (φ := φ) (A := A) (w := w) (φ' := φ') (A' := A') (P := C.P) (by rcases h4 with ⟨rfl, _⟩ | ⟨_, _, rfl, _⟩ <;> simp) (fun w2 s2 o2 => ?_) ms w1 h3 h1 h2
    ·simpa using this
    ·rcases h4 with ⟨rfl, fr', hr', hf'⟩ | ⟨v, x, rfl, hv, hr'⟩
     ·have main : ∀ g : ResultVar → Sem Value, (∀ t, g (.tmp t) = pure (a1.tmps.getD t undef)) → (∀ x t, g (.cell x t) = (do loadVar t (← asAddr (a1.tmps.getD x undef)))) →
        ∃ v, (do let vs ← fn.results.mapM g; pure (if h : vs.size = 1 then vs[0] else .tuple vs) : Sem Value).run C.P w2 = .ok v w2 ∧ CallEnd C.P φ A w r (.returned v) w2 := by
       intro g g1 g2
       obtain ⟨vs, us', k1, k2, k3⟩ := evResults_sound g1 g2 (K := fun vs => M.pure (oneOf vs)) hr'.symm hr s2 hf'
       refine ⟨_, ?_, oneOf vs, φ', A', k1, oneOf_VR k3, s2, o2⟩
       rw [Sem.run_bind, Array.mapM_eq_mapM_toList, Sem.run_map, k2]
       rfl
      exact main _ (fun _ => rfl) (fun _ _ => rfl)
     ·exact ⟨v, x, φ', A', hr', rfl, hv, s2, o2⟩
   rintro e a1 w1 (⟨φ', A', h1, h2, ⟨ms, hms, _, h3⟩, h4⟩ | ⟨_, u, (⟨rfl, rfl⟩ | ⟨ch, rfl, rfl⟩), hp⟩)
   ·rw [List.append_nil] at hms
    subst hms
    rcases h4 with ⟨e', fr', g1, g2, g3, g4⟩ | ⟨v, u, rfl, g1, g2, _⟩
    ·cases e' <;> cases e <;> first | exact g1.elim | skip
     ·exact fin a1 φ' A' w1 .returning _ h1 h2 h3 (.inl ⟨rfl, fr', g2, g3⟩)
     ·exact absurd g2 hr
     ·exact fin a1 φ' A' w1 .returning _ h1 h2 h3 (.inl ⟨rfl, fr', g2, g3⟩)
    ·exact fin a1 φ' A' w1 _ _ h1 h2 h3 (.inr ⟨v, u, rfl, g1, g2⟩)
   ·exact hp fn _ fun φ' A' w' u' ds k1 k2 k3 k4 => by
     obtain ⟨ms, rfl, _, hmk⟩ := k3
     rw [List.append_nil]
     exact fin a1 φ' A' w' u' ms k1 k2 hmk k4
   ·exact hp fn _ fun φ' A' w' u' ds k1 k2 k3 k4 => by
     obtain ⟨ms, rfl, _, hmk⟩ := k3
     rw [List.append_nil]
     exact fin a1 φ' A' w' u' ms k1 k2 hmk k4
theorem frOk_args {args us : List Value} (hg : GlobOk P φ) (ha : Rs φ args us) (n : Nat) : FrOk P φ ⟨argSlots 0 args⟩ { tmps := us.toArray ++ Array.replicate n undef, defers := [] } := ⟨fun t v hv => by
 simp only [look_argSlots, Nat.zero_le, if_true, Nat.sub_zero] at hv
 obtain ⟨u, hu, hvu⟩ := ha.get hv
 have hlt := (List.getElem?_eq_some_iff.1 hu).1
 refine ⟨u, ?_, hvu⟩
 rw [Array.getElem?_append_left (by simpa using hlt)]
 simpa using hu, hg⟩
theorem recOps_sound {ops : Array Oper} {Q : Go.Exit → Act → List Frame → World → Prop} {cs : List Frame} {n : Nat} (hb : ∀ o ∈ ops.toList, ∀ d, o.dst = some d → d < n) : ∀ (l : List Oper) (k : Nat) (fr fr' : Fr) (a : Act),
  ops.toList.drop k = l → recOps C l fr = some fr' → FrOk C.P φ fr a → n ≤ a.tmps.size → a.defers = [] → (∀ a', FrOk C.P φ fr' a' → n ≤ a'.tmps.size → a'.defers = [] → Q .normal a' cs w) → wpOpsSIn Fence.wide 0 C.P ops Q (List.range' k l.length) a cs w
 | [], k, fr, fr', a, hl, h, hf, hn, hd, H => by
  simp only [recOps, Option.some.injEq] at h
  subst h
  exact H a hf hn hd
 | o :: l, k, fr, fr', a, hl, h, hf, hn, hd, H => by
  have hlen : k < ops.toList.length := by
   rcases Nat.lt_or_ge k ops.toList.length with h' | h'
   ·exact h'
   ·rw [List.drop_eq_nil_of_le h'] at hl; cases hl
  rw [List.drop_eq_getElem_cons hlen] at hl
  have ho1 : ops.toList[k] = o := by injection hl
  have hl1 : ops.toList.drop (k + 1) = l := by injection hl
  have hko : ops[k]? = some o := by
   rw [← ho1]; simp at hlen ⊢
  have hmem : o ∈ ops.toList := by rw [← ho1]; exact List.getElem_mem hlen
  rw [List.length_cons, List.range'_succ]
  simp only [wpOpsSIn, hko]
  refine ⟨fun _ _ => trivial, ?_⟩
  simp only [recOps] at h
  have main : ∀ x v, o.guard = none → (execOp a.eval o).run C.P w = .ok (.value (a.eval x)) w → fr.eval C.P x = some v → recOps C l (fr.putDst o.dst v) = some fr' →
    (if Region.wanted o (yielded ops a.tmps) = true then
     match (execOp a.eval o).run C.P w with
     | .ok .recover w' =>
      match recoverD cs with
      | some (v, cs') => wpOpsSIn Fence.wide 0 C.P ops Q (List.range' (k + 1) l.length) (a.put o.dst v) cs' w'
      | none => wpOpsSIn Fence.wide 0 C.P ops Q (List.range' (k + 1) l.length) (a.put o.dst .nilIface) cs w'
     | .ok (.value v) w' => wpOpsSIn Fence.wide 0 C.P ops Q (List.range' (k + 1) l.length) (a.put o.dst v) cs w'
     | .ok .skip w' => wpOpsSIn Fence.wide 0 C.P ops Q (List.range' (k + 1) l.length) (a.put o.dst undef) cs w'
     | .halt (.panic v) w' => Q (.panic [{ v, recovered := false }]) a cs w'
     | _ => False
    else wpOpsSIn Fence.wide 0 C.P ops Q (List.range' (k + 1) l.length) (a.put o.dst undef) cs w) := by
   intro x v hgu hx hv hrest
   have hwant : Region.wanted o (yielded ops a.tmps) = true := by simp [Region.wanted, hgu]
   rw [if_pos hwant, hx]
   exact recOps_sound hb l (k + 1) _ fr' _ hl1 hrest (hf.put (Upd.put fr o.dst v) (hf.eval hv) (fun d hd' => Nat.lt_of_lt_of_le (hb o hmem d hd') hn)) (by rw [put_size]; exact hn) (by rw [put_defers]; exact hd) H
  split at h
  ·rename_i x hgu hop
   obtain ⟨v, hv, h⟩ := Option.bind_eq_some_iff.1 h
   exact main x v hgu (by unfold execOp; rw [hop]; rfl) hv h
  ·rename_i x hgu hop
   obtain ⟨v, hv, h⟩ := Option.bind_eq_some_iff.1 h
   exact main x v hgu (by unfold execOp; rw [hop]; rfl) hv h
  ·cases h
theorem evBodyD_sound (hC : COk C) (hI : IOk C.P I) {f : FuncId} {args us : List Value} {rc : Option Value} {v : Value} {A1 : AW} {u : FrameMode} (h : evBodyD C I f args rc A = .ok v A1) (hg : GlobOk C.P φ) (hs : Sim C.P φ A w) (ha : Rs φ args us)
  (hu : ModeOk φ rc u) : CallsDIn Fence.wide 0 C.P f us.toArray u w (DEnd C.P φ A w v A1 u) := by
 unfold evBodyD at h
 have hr : (Res.ok v A1) ≠ .stuck := by simp
 cases hfn : C.P.funcs[f]? with
 | none => rw [hfn] at h; exact stuck_ok (A := A) h hr
 | some fn =>
  rw [hfn] at h
  simp only at h
  cases hb : fn.body with
  | none => rw [hb] at h; exact stuck_ok (A := A) h hr
  | some bc =>
   rw [hb] at h
   cases bc with
   | seq x c =>
    cases x with
    | region i ops draw =>
     cases draw with
     | true => exact stuck_ok (A := A) h hr
     | false =>
      simp only at h
      obtain ⟨hc, h⟩ := condM_ok h hr
      simp only [Bool.and_eq_true] at hc
      obtain ⟨hbd, hres⟩ := hc
      obtain ⟨fr, hfr, h⟩ := need_ok h hr
      have hres : fn.results = #[] := by simpa using hres
      have hsz : fn.ntmps ≤ (us.toArray ++ Array.replicate (fn.ntmps - us.toArray.size) undef).size := by simp; omega
      have hbd2 : boundIn fn.ntmps c = true := by
       simp only [boundIn, Bool.and_eq_true] at hbd; exact hbd.2
      have hbops : ∀ o ∈ ops.toList, ∀ d, o.dst = some d → d < fn.ntmps := by
       simp only [boundIn, Bool.and_eq_true] at hbd
       intro o ho d hd
       have := List.all_eq_true.1 hbd.1 o ho
       rw [hd] at this
       have h9 : Nat.blt d fn.ntmps = true := this
       simpa using h9
      refine callsDIn_of_wpSIn hfn hb trivial fun c₀ cs hmode => wpSIn_seq (wpSIn_region ?_)
      rw [List.range_eq_range']
      unfold recFirst at hfr
      split at hfr
      ·rename_i o l hops
       split at hfr
       ·rename_i cl hgu hop
        split at hfr
        rotate_left
        ·cases hfr
        rename_i hcl
        have hoz : ops[0]? = some o := by
         have : ops.toList[0]? = some o := by rw [hops]; rfl
         simpa using this
        have hszo : ops.size = l.length + 1 := by rw [← Array.length_toList, hops]; rfl
        have hmem : o ∈ ops.toList := by rw [hops]; simp
        rw [hszo, List.range'_succ]
        simp only [wpOpsSIn, hoz]
        refine ⟨fun _ _ => trivial, ?_⟩
        have hwant : ∀ tm, Region.wanted o (yielded ops tm) = true := fun tm => by simp [Region.wanted, hgu]
        have hex : ∀ ρ : Operand → Value, (execOp ρ o).run C.P w = .ok .recover w := fun ρ => by unfold execOp; rw [hop]; simp only [resolve, hcl, Sem.run_bind, Sem.run_pure, Result.andThen_ok, invoke, builtin]
        rw [if_pos (hwant _), hex]
        simp only
        have key : ∀ (y z : Value) (cs' : List Frame) (u' : FrameMode), VR φ y z → recOps C l ((⟨argSlots 0 args⟩ : Fr).putDst o.dst y) = some fr → cs' = { c₀ with mode := u' } :: cs →
          ((rc.isSome = false ∧ u' = u) ∨ (rc.isSome = true ∧ ∃ x, u = .panicking [{ v := x, recovered := false }] ∧ u' = .panicking [{ v := x, recovered := true }])) →
          wpOpsSIn Fence.wide 0 C.P ops (Exit.thenS (c.wpSIn Fence.wide 0 C.P (bodyPostS C.P fn c₀ cs (DEnd C.P φ A w v A1 u))) (bodyPostS C.P fn c₀ cs (DEnd C.P φ A w v A1 u))) (List.range' (0 + 1) l.length)
           (Act.put { tmps := us.toArray ++ Array.replicate (fn.ntmps - us.toArray.size) undef, defers := [] } o.dst z) cs' w := by
         intro y z cs' u' hyz hrec hcs hu'
         refine recOps_sound (φ := φ) (n := fn.ntmps) hbops l (0 + 1) _ fr _ (by rw [hops]; rfl) hrec ((frOk_args hg ha _).put (Upd.put _ o.dst y) hyz (fun d hd => Nat.lt_of_lt_of_le (hbops o hmem d hd) hsz)) (by rw [put_size]; exact hsz) (by rw [put_defers]) fun a' hf' hn' hd' => ?_
         show c.wpSIn Fence.wide 0 C.P _ a' cs' w
         refine wpSIn_of_wpIn rfl (wpIn_mono (evCode_sound (ro := none) hC hI (rd := true) (by simp) c noneD false _ Value fr _ φ A w a' _ noneD_stays (by simp) hbd2 hn' h hr hs hf' hd') ?_)
         rintro e a1 w1 (⟨φ', A', h1, h2, h3, h4⟩ | ⟨hx, _⟩)
         rotate_left
         ·cases hx
         have h3 : a1.defers = [] := h3
         have hend : (∃ x, (results fn a1.tmps).run C.P w1 = .ok x w1) := by
          refine ⟨.tuple #[], ?_⟩
          simp [results, hres]
         obtain ⟨x, hx⟩ := hend
         rcases h4 with ⟨e', fr1, g1, g2, g3, g4⟩ | ⟨v', u1, rfl, g1, g2, g3⟩
         ·cases e' <;> cases e <;> first | exact g1.elim | exact absurd (show Res.ok v A1 = .stuck from g2) hr | skip
          ·have g2 : Res.ok v A1 = .ok (.bool rc.isSome) A' := g2
           cases g2
           refine ⟨h3, u', hcs, x, hx, x, rc.isSome, φ', rfl, rfl, h1, h2, hu'⟩
          ·have g2 : Res.ok v A1 = .ok (.bool rc.isSome) A' := g2
           cases g2
           refine ⟨h3, u', hcs, x, hx, x, rc.isSome, φ', rfl, rfl, h1, h2, hu'⟩
         ·cases g2
        cases rc with
        | none =>
         have hu : u = .returning := hu
         subst hu
         have hrd : recoverD (c₀ :: cs) = none := by simp [recoverD, hmode]
         rw [hrd]
         exact key .nilIface .nilIface (c₀ :: cs) .returning .nilIface hfr (by rw [← hmode]) (.inl ⟨rfl, rfl⟩)
        | some y =>
         obtain ⟨z, hyz, rfl⟩ := hu
         have hrd : recoverD (c₀ :: cs) = some (z, { c₀ with mode := .panicking [{ v := z, recovered := true }] } :: cs) := by simp [recoverD, hmode]
         rw [hrd]
         exact key y z _ _ hyz hfr rfl (.inr ⟨rfl, z, rfl, rfl⟩)
       ·cases hfr
      ·cases hfr
    | _ => exact stuck_ok (A := A) h hr
   | _ => exact stuck_ok (A := A) h hr
theorem bindParams_sound : ∀ {ts : List Tmp} {vs us : List Value} {e env : Slots} {tm : Array Value}, bindParams ts vs e = some env → EnvR φ e tm → Rs φ vs us → (∀ t ∈ ts, t < tm.size) →
  EnvR φ env ((ts.zip us).foldl (fun tm p => tm.setIfInBounds p.1 p.2) tm) ∧ ((ts.zip us).foldl (fun tm p => tm.setIfInBounds p.1 p.2) tm).size = tm.size ∧ ts.length = us.length
 | [], [], us, e, env, tm, h, he, hr, _ => by
  obtain rfl := hr.nil_inv
  simp only [bindParams, Option.some.injEq] at h
  subst h
  exact ⟨he, rfl, rfl⟩
 | [], _ :: _, us, e, env, tm, h, _, _, _ => by simp [bindParams] at h
 | _ :: _, [], us, e, env, tm, h, _, _, _ => by simp [bindParams] at h
 | t :: ts, v :: vs, us, e, env, tm, h, he, hr, ht => by
  obtain ⟨u, us', rfl, h1, h2⟩ := hr.cons_inv
  simp only [bindParams] at h
  have he' : EnvR φ ((t, v) :: e) (tm.setIfInBounds t u) :=
   he.put (fr := ⟨e⟩) (fr' := ⟨(t, v) :: e⟩) (dst := some t) (fun x => by simp only [look_cons, Option.some.injEq]) h1 (fun d hd => by simp at hd; subst hd; exact ht t (by simp))
  obtain ⟨k1, k2, k3⟩ := bindParams_sound h he' h2 (fun x hx => by simp; exact ht x (by simp [hx]))
  refine ⟨k1, ?_, by simp [k3]⟩
  simp only [List.zip_cons_cons, List.foldl_cons, k2]
  simp
theorem run_getLoop {c : Nat} {l : Loop} (h : w.heap[c]? = some (.loop l)) : (Instr.getLoop c).run P w = .ok l w := by simp [Instr.getLoop, getObj, Sem.run, h]
theorem run_setLoop {c : Nat} {l : Loop} (h : w.heap[c]? = some (.loop l)) (o : Obj) :
  ∃ w', (setObj c o).run P w = .ok () w' ∧ Sz w w' ∧ (∀ d, d ≠ c → w'.heap[d]? = w.heap[d]?) ∧ w'.heap[c]? = some o := by
 have hlt := (Array.getElem?_eq_some_iff.1 h).1
 exact ⟨{ w with heap := w.heap.setIfInBounds c o }, by simp [setObj, Sem.run, h], ⟨by simp, rfl, rfl, rfl⟩, fun d hd => by simp [Ne.symm hd], by simp [hlt]⟩
theorem bindP_only {m : M Value} {r : Res Value} (h : M.bindP m M.pure (fun _ => M.stuck) A = r) (hr : r ≠ .stuck) : ∃ ri, m A = ri ∧ ri ≠ .stuck ∧ r = ri ∧ ∀ v A', ri ≠ .panic v A' := by
 unfold M.bindP at h
 cases hq : m A with
 | stuck => rw [hq] at h; exact absurd h.symm hr
 | panic v A' => rw [hq] at h; exact absurd h.symm hr
 | ok v A' => rw [hq] at h; exact ⟨_, rfl, by simp, h.symm, by simp⟩
theorem evRound_sound (hC : COk C) (hI : IOk C.P I) {l : Nat} {args us : List Value} {c : Nat} {r : Res Value} (h : evRound C I l args A = r) (hr : r ≠ .stuck) (hg : GlobOk C.P φ) (hs : Sim C.P φ A w) (hbr : BR φ l c) (ha : Rs φ args us) :
  ∃ f tmps assign body, (Instr.yield c us.toArray).run C.P w = .ok (.round c f tmps assign body) w ∧ RoundIn Fence.wide 0 C.P c f tmps assign body w (CallEnd C.P φ A w r) := by
 unfold evRound at h
 cases hga : A.get l with
 | none => rw [hga] at h; exact absurd h.symm hr
 | some oa =>
  rw [hga] at h
  cases oa with
  | loop rl =>
   simp only at h
   obtain ⟨ex, o', hφ, hw, lo, rfl, l1, l2, l3, l4, l5, l6, l7⟩ := hs.liveB hbr hga
   cases hst : rl.state with
   | ready =>
    rw [hst] at h
    cases hbp : bindParams rl.params args rl.env with
    | none => rw [hbp] at h; exact absurd h.symm hr
    | some env =>
     rw [hbp] at h
     simp only at h
     obtain ⟨hc, h⟩ := condM_ok h hr
     simp only [Bool.and_eq_true] at hc
     obtain ⟨⟨hc1, hc2⟩, hc3⟩ := hc
     have hts : ∀ t ∈ rl.params, t < lo.tmps.size := fun t ht => by
      have h9 : Nat.blt t rl.bound = true := List.all_eq_true.1 hc3 t ht
      have h8 : t < rl.bound := by simpa using h9
      exact Nat.lt_of_lt_of_le h8 l3
     obtain ⟨b1, b2, b3⟩ := bindParams_sound hbp l4 ha hts
     obtain ⟨tm, htm⟩ : ∃ tm, tm = (rl.params.zip us).foldl (fun tm p => tm.setIfInBounds p.1 p.2) lo.tmps := ⟨_, rfl⟩
     rw [← htm] at b1 b2
     have hz : (lo.params.zip us.toArray).foldl (fun tmps (x : Tmp × Value) => match x with | (t, a) => tmps.setIfInBounds t a) lo.tmps = tm := by
      rw [← Array.foldl_toList, htm, Array.toList_zip, l5]
     have hsz : us.toArray.size = lo.params.size := by
      have : lo.params.toList.length = us.length := by rw [l5]; exact b3
      simp at this ⊢; omega
     refine ⟨lo.fn, tm, lo.assign, lo.body, ?_, ?_⟩
     ·have hne : ¬ (us.toArray.size ≠ lo.params.size) := fun hn => hn hsz
      simp only [Instr.yield, Sem.run_bind, run_getLoop hw, Result.andThen_ok, if_neg hne, Sem.run_pure, hz]
     ·rw [l6, l7]
      refine roundIn_of_wpIn trivial ?_
      obtain ⟨ri, hri, hrs, hre, hrp⟩ := bindP_only h hr
      rw [hre]
      have hassign := evCode_sound (ro := some c) hC hI (rd := true) (by simp) rl.assign noneD false (annPair rl.ann).1 Value ⟨env⟩ _ φ A w { tmps := tm, defers := [] } ri noneD_stays (by simp) hc1 (by simp only; omega) hri hrs hs ⟨b1, hg⟩ rfl
      refine wpIn_mono hassign ?_
      rintro e a1 w1 (⟨φ', A', h1, h2, h3, h4⟩ | ⟨hx, _⟩)
      rotate_left
      ·cases hx
      rcases h4 with ⟨e', fr', g1, g2, g3, g4⟩ | ⟨v, u, rfl, g1, g2, _⟩
      ·cases e' <;> cases e <;> first | exact g1.elim | exact absurd g2 hrs | skip
       simp only [roundK] at g2
       unfold M.beginLoop at g2
       cases hga1 : A'.get l with
       | none => rw [hga1] at g2; exact absurd g2 hrs
       | some oa1 =>
        rw [hga1] at g2
        cases oa1 with
        | loop r1 =>
         simp only at g2
         obtain ⟨ex1, o1', hφ1, hw1, lo1, rfl, m1, m2, m3, m4, m5, m6, m7⟩ := h1.liveB (hbr.mono h2.le) hga1
         cases hst1 : r1.state with
         | ready =>
          rw [hst1] at g2
          simp only at g2
          obtain ⟨w2, s1, s2, s3, s4⟩ := run_setLoop (P := C.P) hw1 (.loop { lo1 with state := .busy })
          obtain ⟨t1, t2⟩ := h1.put (o := .loop { r1 with state := .busy }) hφ1 s2 s3 s4 ⟨_, rfl, rfl, m2, m3, m4, m5, m6, m7⟩
          refine ⟨w2, ?_, ?_⟩
          ·simp only [Instr.beginRound, Sem.run_bind, run_getLoop hw1, Result.andThen_ok, s1, m1, hst1, Sem.run_pure]
          ·generalize A'.put l (.loop { r1 with state := .busy }) = Ab at g2 t1 t2
           have hbodyw := evCode_sound (ro := some c) hC hI (rd := true) (by simp) rl.body noneD false (annPair rl.ann).2 Value fr' _ φ' Ab w2 a1 ri noneD_stays (by simp) hc2 (by rw [g4.1]; simp only; omega) g2.symm hrs t1 ⟨(g3.mono t2.le).env, (g3.mono t2.le).glob⟩ h3
           refine wpIn_mono hbodyw ?_
           rintro e a2 w3 (⟨φ2, A2, p1, p2, p3, p4⟩ | ⟨hx, _⟩)
           rotate_left
           ·cases hx
           rcases p4 with ⟨e', fr2, q1, q2, q3, q4⟩ | ⟨v, u, rfl, q1, q2, _⟩
           ·have endR : ∀ (s : LoopState) (pc : Option Code) (b : Bool), ri = M.setLoop l s pc (M.pure (.bool b)) A2 → s = (if pc.isNone then .ready else .done) → b = pc.isNone →
              ∃ v w', (Instr.endRound c pc).run C.P w3 = .ok v w' ∧ CallEnd C.P φ A w ri (.returned v) w' := by
             intro s pc b hq hs' hb'
             unfold M.setLoop at hq
             cases hga2 : A2.get l with
             | none => rw [hga2] at hq; exact absurd hq hrs
             | some oa2 =>
              rw [hga2] at hq
              cases oa2 with
              | loop r2 =>
               simp only at hq
               obtain ⟨ex2, o2', hφ2, hw2', lo2, rfl, n1, n2, n3, n4, n5, n6, n7⟩ := p1.liveB ((hbr.mono h2.le).mono (t2.trans p2).le) hga2
               obtain ⟨w4, v1, v2, v3, v4⟩ := run_setLoop (P := C.P) hw2' (.loop { lo2 with state := if pc.isNone then .ready else .done, pending := pc })
               obtain ⟨y1, y2⟩ := p1.put (o := .loop { r2 with state := s, pending := pc }) hφ2 v2 v3 v4 ⟨_, rfl, hs'.symm, rfl, n3, n4, n5, n6, n7⟩
               refine ⟨.bool pc.isNone, w4, ?_, .bool b, φ2, _, hq, by rw [hb']; exact .bool _, y1, h2.trans (t2.trans (p2.trans y2))⟩
               simp only [Instr.endRound, Sem.run_bind, run_getLoop hw2', Result.andThen_ok, v1, Sem.run_pure]
              | _ => exact absurd hq hrs
            cases e' <;> cases e <;> first | exact q1.elim | skip
            ·exact endR .ready none true q2 rfl rfl
            ·rename_i i i'
             obtain rfl : i = i' := q1
             exact endR .done (some (.exit i)) false q2 rfl rfl
            ·exact endR .done (some .ret) false q2 rfl rfl
           ·exact absurd q2 (hrp v A2)
         | _ => rw [hst1] at g2; exact absurd g2 hrs
        | _ => exact absurd g2 hrs
      ·exact absurd g2 (hrp v A')
   | _ => rw [hst] at h; exact absurd h.symm hr
  | _ => exact absurd h.symm hr
def LOk (L : LoopI) : Prop := ∀ {σ ρ : Type} (f : σ → M (σ ⊕ ρ)) s A r, L f s A = r → r ≠ .stuck → ∃ n, whileN f n s A = r
end
end Go.Eng
