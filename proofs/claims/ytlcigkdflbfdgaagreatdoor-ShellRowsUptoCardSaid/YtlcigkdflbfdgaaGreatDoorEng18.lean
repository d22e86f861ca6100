/-
 The engine, part 18: what a function of the program comes to over an abstract heap; each part is proved against the model.
-/
import Derived.Test.YtlcigkdflbfdgaaGreatDoorEng17
import Derived.OrdersIn
import Derived.RangeFuncLeaves
namespace Go.Eng
open Go
theorem look_cons (t u : Nat) (v : Value) (l : Slots) : look t ((u, v) :: l) = if u = t then some v else look t l := by
 simp only [look, Tree.cond_beq]
def Upd (fr : Fr) (dst : Option Tmp) (v : Value) (fr' : Fr) : Prop := ∀ t, look t fr'.env = if dst = some t then some v else look t fr.env
theorem Upd.put (fr : Fr) (dst : Option Tmp) (v : Value) : Upd fr dst v (fr.putDst dst v) := fun t => by
 cases dst with
 | none => simp [Fr.putDst]
 | some d => simp only [Fr.putDst, Fr.set, look_cons, Option.some.injEq]
theorem Upd.set {fr : Fr} {d : Nat} {b : Value} (h : look d fr.env = some b) (dst : Option Tmp) (v : Value) : Upd fr dst v ((fr.set d b).putDst dst v) := fun t => by
 rw [Upd.put (fr.set d b) dst v t]
 simp only [Fr.set, look_cons]
 by_cases e : d = t
 ·subst e; simp [h]
 ·simp [e]
section
variable {C : Cfg} {I : Interp} {φ : Phi} {A : AW} {ρ : Type} {r : Res ρ} {w : World} {ro : Option Nat} {P : Program} {a : Act} {o : Oper}
def putT (dst : Option Tmp) (u : Value) (tm : Array Value) : Array Value := match dst with
 | some d => tm.setIfInBounds d u
 | none => tm
theorem EnvR.put {fr fr' : Fr} {dst : Option Tmp} {v u : Value} {tm : Array Value} (h : EnvR φ fr.env tm) (hu : Upd fr dst v fr') (hv : VR φ v u) (hb : ∀ d, dst = some d → d < tm.size) :
  EnvR φ fr'.env (putT dst u tm) := by
 intro t x hx
 rw [hu t] at hx
 unfold putT
 cases dst with
 | none => simp only [reduceCtorEq, if_false] at hx; exact h t x hx
 | some d =>
  simp only [Option.some.injEq] at hx
  have hd := hb d rfl
  by_cases e : d = t
  ·subst e
   rw [if_pos rfl] at hx
   obtain rfl := Option.some.inj hx
   exact ⟨u, by simp [hd], hv⟩
  ·rw [if_neg e] at hx
   obtain ⟨y, hy, hxy⟩ := h t x hx
   exact ⟨y, by simp [Array.getElem?_setIfInBounds_ne e, hy], hxy⟩
theorem put_tmps (a : Act) (dst : Option Tmp) (u : Value) : (a.put dst u).tmps = putT dst u a.tmps := by cases dst <;> rfl
theorem put_defers (a : Act) (dst : Option Tmp) (u : Value) : (a.put dst u).defers = a.defers := by cases dst <;> rfl
theorem put_size (a : Act) (dst : Option Tmp) (u : Value) : (a.put dst u).tmps.size = a.tmps.size := by cases dst <;> simp [Act.put]
theorem put_get (a : Act) (dst : Option Tmp) (u : Value) (t : Nat) (h : dst ≠ some t) : (a.put dst u).tmps[t]? = a.tmps[t]? := by
 cases dst with
 | none => rfl
 | some d =>
  have : d ≠ t := fun e => h (by rw [e])
  simp [Act.put, Array.getElem?_setIfInBounds_ne this]
theorem FrOk.put {fr fr' : Fr} {dst : Option Tmp} {v u : Value} (h : FrOk P φ fr a) (hu : Upd fr dst v fr') (hv : VR φ v u) (hb : ∀ d, dst = some d → d < a.tmps.size) : FrOk P φ fr' (a.put dst u) :=
 ⟨by rw [put_tmps]; exact h.env.put hu hv hb, h.glob⟩
theorem FrOk.mono {ψ : Phi} {fr : Fr} (h : FrOk P φ fr a) (l : Le φ ψ) : FrOk P ψ fr a := ⟨h.env.mono l, h.glob.mono l⟩
def StepNext (P : Program) (φ : Phi) (A : AW) (w : World) (a : Act) (dst : Option Tmp) (fr : Fr) (r : Res ρ) (K : Fr → M ρ) : Act → World → Prop := fun a1 w1 =>
 ∃ v v' A' φ' fr', r = K fr' A' ∧ VR φ' v v' ∧ a1 = a.put dst v' ∧ Sim P φ' A' w1 ∧ Onw φ A w φ' A' w1 ∧ Upd fr dst v fr'
def StepUp (P : Program) (ro : Option Nat) (ops : Array Oper) (φ : Phi) (A : AW) (w : World) (a : Act) (o : Oper) (fr : Fr) (r : Res ρ) (K : Fr → M ρ) : Prop :=
 if Region.wanted o (yielded ops a.tmps) then o.wpIn (Fw ro) 0 P a w (StepNext P φ A w a o.dst fr r K) (OpPan P φ A w a r)
 else (∀ f, o.about P w a.eval = some f → (Fw ro).fn f) ∧ StepNext P φ A w a o.dst fr r K (a.put o.dst undef) w
theorem evOp_noDefer {K : Value → M ρ} {fr : Fr} (h : evOp C I o fr K A ≠ .stuck) : ∀ c, o.op ≠ .defer c := by
 intro c hc
 unfold evOp at h
 rw [hc] at h
 exact h rfl
theorem evOp_wp (hC : COk C) (hI : IOk C.P I) {fr fr1 : Fr} {K : Fr → M ρ} {g : Value → Fr} (h : evOp C I o fr1 (fun v => K (g v)) A = r) (hr : r ≠ .stuck) (hs : Sim C.P φ A w) (hf : FrOk C.P φ fr1 a) (hg : ∀ v, Upd fr o.dst v (g v)) :
  o.wpIn (Fw ro) 0 C.P a w (StepNext C.P φ A w a o.dst fr r K) (OpPan C.P φ A w a r) := by
 refine ⟨fun _ _ => trivial, ?_⟩
 rw [Oper.semAt_eq _ _ _ (evOp_noDefer (by rw [h]; exact hr))]
 refine uponIn_mono (evOp_sound (ro := ro) hC hI h hr hs hf) (fun a1 w1 hn => ?_) (fun _ _ _ h => h)
 obtain ⟨v, v', A', φ', h1, h2, h3, h4, h5⟩ := hn
 exact ⟨v, v', A', φ', g v, h1, h2, h3, h4, h5, hg v⟩
theorem vr_undef (φ : Phi) : VR φ undef undef := .tuple rfl (fun i x y hx => by simp at hx)
theorem stepOp_sound (hC : COk C) (hI : IOk C.P I) {ops : Array Oper} {fr : Fr} {K : Fr → M ρ} (h : stepOp C I ops.toList o fr K A = r) (hr : r ≠ .stuck) (hs : Sim C.P φ A w) (hf : FrOk C.P φ fr a) :
  StepUp C.P ro ops φ A w a o fr r K := by
 have skip : ∀ fr', r = K fr' A → Upd fr o.dst undef fr' → StepNext C.P φ A w a o.dst fr r K (a.put o.dst undef) w := fun fr' h1 h2 => ⟨undef, undef, A, φ, fr', h1, vr_undef φ, rfl, hs, Onw.refl _ _ _, h2⟩
 unfold stepOp at h
 unfold StepUp
 cases hg : o.guard with
 | none =>
  rw [hg] at h
  have hw : Region.wanted o (yielded ops a.tmps) = true := by simp [Region.wanted, hg]
  rw [if_pos hw]
  exact evOp_wp hC hI h hr hs hf (fun v => Upd.put fr o.dst v)
 | some jw =>
  obtain ⟨j, want⟩ := jw
  rw [hg] at h
  simp only at h
  cases hd : (ops.toList[j]?).bind (·.dst) with
  | none => rw [hd] at h; exact stuck_ok (A := A) h hr
  | some d =>
   rw [hd] at h
   have hd' : (ops[j]?).bind (·.dst) = some d := by simpa using hd
   simp only at h
   cases hl : look d fr.env with
   | none => rw [hl] at h; exact stuck_ok (A := A) h hr
   | some v =>
    rw [hl] at h
    obtain ⟨u, hu, huv⟩ := hf.env d v hl
    cases v with
    | bool b =>
     obtain rfl := huv.bool_inv
     have hy : yielded ops a.tmps j = some b := by
      unfold yielded
      rw [hd']
      simp [hu]
     have hwant : Region.wanted o (yielded ops a.tmps) = (b == want) := by simp [Region.wanted, hg, hy]
     rw [hwant]
     simp only [M.ite] at h
     cases b with
     | true =>
      cases want with
      | true =>
       simp only [cond_true] at h
       rw [if_pos (by rfl)]
       exact evOp_wp hC hI h hr hs hf (fun v => Upd.set hl o.dst v)
      | false =>
       simp only [cond_true, cond_false] at h
       rw [if_neg (by simp)]
       exact ⟨fun _ _ => trivial, skip _ h.symm (Upd.set hl o.dst undef)⟩
     | false =>
      cases want with
      | true =>
       simp only [cond_true, cond_false] at h
       rw [if_neg (by simp)]
       exact ⟨fun _ _ => trivial, skip _ h.symm (Upd.set hl o.dst undef)⟩
      | false =>
       simp only [cond_false] at h
       rw [if_pos (by rfl)]
       exact evOp_wp hC hI h hr hs hf (fun v => Upd.set hl o.dst v)
    | tuple cs =>
     have hy : yielded ops a.tmps j = none := by
      unfold yielded
      rw [hd']
      cases huv <;> simp [hu]
     have hwant : Region.wanted o (yielded ops a.tmps) = false := by simp [Region.wanted, hg, hy]
     rw [hwant, if_neg (by simp)]
     exact ⟨fun _ _ => trivial, skip _ h.symm (Upd.put fr o.dst undef)⟩
    | _ => exact stuck_ok (A := A) h hr
def Kept (W : Nat → Prop) (a a1 : Act) : Prop := a1.tmps.size = a.tmps.size ∧ ∀ t, ¬ W t → a1.tmps[t]? = a.tmps[t]?
theorem Kept.refl (W : Nat → Prop) (a : Act) : Kept W a a := ⟨rfl, fun _ _ => rfl⟩
theorem Kept.trans {W : Nat → Prop} {a a1 a2 : Act} (h : Kept W a a1) (k : Kept W a1 a2) : Kept W a a2 := ⟨k.1.trans h.1, fun t ht => (k.2 t ht).trans (h.2 t ht)⟩
theorem Kept.weaken {W V : Nat → Prop} {a a1 : Act} (h : Kept W a a1) (hv : ∀ t, W t → V t) : Kept V a a1 := ⟨h.1, fun t ht => h.2 t (fun hw => ht (hv t hw))⟩
theorem Kept.put (W : Nat → Prop) (a : Act) (dst : Option Tmp) (u : Value) (h : ∀ d, dst = some d → W d) : Kept W a (a.put dst u) := ⟨put_size a dst u, fun t ht => put_get a dst u t (fun e => ht (h t e))⟩
def ExR : Exit → Go.Exit → Prop
 | .normal, .normal => True
 | .exit i, .exit j => i = j
 | .ret, .ret => True
 | _, _ => False
def Pend (D : DInv) (P : Program) (φ : Phi) (A : AW) (w : World) (r : Res ρ) (K : Exit → Fr → M ρ) : Go.Exit → Act → World → Prop := fun e a1 w1 =>
 ∃ u, ((e = .ret ∧ u = .returning) ∨ ∃ ch, e = .panic ch ∧ u = .panicking ch) ∧ ∀ fn R,
  (∀ φ' A' w' u' ds, Sim P φ' A' w' → Onw φ A w φ' A' w' → D φ' w' ds →
   ((u' = .returning ∧ ∃ fr', r = K .ret fr' A' ∧ FrOk P φ' fr' a1) ∨ (∃ v x, u' = .panicking [{ v := x, recovered := false }] ∧ VR φ' v x ∧ r = .panic v A')) → LeavesInM Fence.wide 0 P fn a1.tmps R ds u' w') →
  LeavesInM Fence.wide 0 P fn a1.tmps R a1.defers u w1
def Post (df : Bool) (D : DInv) (P : Program) (φ : Phi) (A : AW) (w : World) (a : Act) (W : Nat → Prop) (r : Res ρ) (K : Exit → Fr → M ρ) : Go.Exit → Act → World → Prop := fun e a1 w1 =>
 (∃ φ' A', Sim P φ' A' w1 ∧ Onw φ A w φ' A' w1 ∧ D φ' w1 a1.defers ∧
  ((∃ e' fr', ExR e' e ∧ r = K e' fr' A' ∧ FrOk P φ' fr' a1 ∧ Kept W a a1) ∨
   (∃ v u, e = .panic [{ v := u, recovered := false }] ∧ VR φ' v u ∧ r = .panic v A' ∧ Kept W a a1))) ∨
 (df = true ∧ Pend D P φ A w r K e a1 w1)
def RPost (D : DInv) (P : Program) (φ : Phi) (A : AW) (w : World) (a : Act) (W : Nat → Prop) (r : Res ρ) (K : Fr → M ρ) : Go.Exit → Act → World → Prop := fun e a1 w1 =>
 ∃ φ' A', Sim P φ' A' w1 ∧ Onw φ A w φ' A' w1 ∧ D φ' w1 a1.defers ∧
  ((∃ fr', e = .normal ∧ r = K fr' A' ∧ FrOk P φ' fr' a1 ∧ Kept W a a1) ∨
   (∃ v u, e = .panic [{ v := u, recovered := false }] ∧ VR φ' v u ∧ r = .panic v A' ∧ Kept W a a1))
def wrOps (ops : Array Oper) (t : Nat) : Prop := ∃ o ∈ ops.toList, o.dst = some t
theorem evSeq_to (hC : COk C) (hI : IOk C.P I) {ops : Array Oper} {K : Fr → M ρ} {D : DInv} (hD : Stays D) {Q : Go.Exit → Act → World → Prop} {tl : List Oper} {φ0 : Phi} {A0 : AW} {w0 : World} {a0 : Act} (hb : ∀ o ∈ ops.toList, ∀ d, o.dst = some d → d < a0.tmps.size) : ∀ (l : List Oper) (k : Nat) (fr : Fr) (φ : Phi) (A : AW) (w : World) (a : Act),
  ops.toList.drop k = l ++ tl → evSeq C I ops.toList K l fr A = r → r ≠ .stuck → Sim C.P φ A w → FrOk C.P φ fr a → Onw φ0 A0 w0 φ A w → Kept (wrOps ops) a0 a → D φ w a.defers →
  (∀ fr' φ' A' w' a', K fr' A' = r → Sim C.P φ' A' w' → FrOk C.P φ' fr' a' → Onw φ0 A0 w0 φ' A' w' → Kept (wrOps ops) a0 a' → D φ' w' a'.defers → wpOpsIn (Fw ro) 0 C.P ops Q (List.range' (k + l.length) tl.length) a' w') →
  (∀ φ' A' w' a' v u, Sim C.P φ' A' w' → Onw φ0 A0 w0 φ' A' w' → D φ' w' a'.defers → VR φ' v u → r = .panic v A' → Kept (wrOps ops) a0 a' → Q (.panic [{ v := u, recovered := false }]) a' w') →
  wpOpsIn (Fw ro) 0 C.P ops Q (List.range' k (l.length + tl.length)) a w
 | [], k, fr, φ, A, w, a, hl, h, hr, hs, hf, ho, hk, hm, fin, pan => by
  have := fin fr φ A w a h hs hf ho hk hm
  simpa using this
 | o :: l, k, fr, φ, A, w, a, hl, h, hr, hs, hf, ho, hk, hm, fin, pan => by
  have hlen : k < ops.toList.length := by
   rcases Nat.lt_or_ge k ops.toList.length with h' | h'
   ·exact h'
   ·rw [List.drop_eq_nil_of_le h'] at hl; cases hl
  rw [List.drop_eq_getElem_cons hlen] at hl
  have ho1 : ops.toList[k] = o := by injection hl
  have hl1 : ops.toList.drop (k + 1) = l ++ tl := by injection hl
  have hko : ops[k]? = some o := by
   rw [← ho1]; simp at hlen ⊢
  have hmem : o ∈ ops.toList := by rw [← ho1]; exact List.getElem_mem hlen
  rw [List.length_cons, show l.length + 1 + tl.length = (l.length + tl.length) + 1 by omega, List.range'_succ]
  rw [wpOpsIn_cons]
  unfold wpOpIn
  rw [hko]
  simp only [evSeq] at h
  have hstep := stepOp_sound (ro := ro) hC hI h hr hs hf
  have hnext : ∀ a1 w1, StepNext C.P φ A w a o.dst fr r (fun fr => evSeq C I ops.toList K l fr) a1 w1 → wpOpsIn (Fw ro) 0 C.P ops Q (List.range' (k + 1) (l.length + tl.length)) a1 w1 := by
   rintro a1 w1 ⟨v, v', A', φ', fr', h1, h2, rfl, h4, h5, h6⟩
   refine evSeq_to hC hI hD hb l (k + 1) fr' φ' A' w1 (a.put o.dst v') hl1 h1.symm hr h4 ((hf.mono h5.le).put h6 h2 (fun d hd => ?_)) (ho.trans h5) (hk.trans (Kept.put _ _ _ _ (fun d hd => ⟨o, hmem, hd⟩))) ?_ (fun fr' φ' A' w' a' k1 k2 k3 k4 k5 k6 => ?_) pan
   ·rw [hk.1]; exact hb o hmem d hd
   ·rw [put_defers]; exact hD.onw hm h5
   ·have := fin fr' φ' A' w' a' k1 k2 k3 k4 k5 k6
    rwa [List.length_cons, show k + (l.length + 1) = k + 1 + l.length by omega] at this
  have hpan : ∀ e a1 w1, OpPan C.P φ A w a r e a1 w1 → Q e a1 w1 := by
   rintro e a1 w1 ⟨rfl, v, u, A', φ', rfl, h2, h3, h4, h5⟩
   exact pan φ' A' w1 _ v u h4 (ho.trans h5) (hD.onw hm h5) h3 h2 hk
  unfold StepUp at hstep
  simp only
  split
  ·rename_i hw
   rw [if_pos hw] at hstep
   exact ⟨hstep.1, uponIn_mono hstep.2 hnext hpan⟩
  ·rename_i hw
   rw [if_neg hw] at hstep
   exact ⟨hstep.1, hnext _ _ hstep.2⟩
theorem evSeq_sound (hC : COk C) (hI : IOk C.P I) {ops : Array Oper} {K : Fr → M ρ} {D : DInv} (hD : Stays D) (hb : ∀ o ∈ ops.toList, ∀ d, o.dst = some d → d < a.tmps.size) {fr : Fr}
  (h : evSeq C I ops.toList K ops.toList fr A = r) (hr : r ≠ .stuck) (hs : Sim C.P φ A w) (hf : FrOk C.P φ fr a) (hm : D φ w a.defers) :
  wpOpsIn (Fw ro) 0 C.P ops (RPost D C.P φ A w a (wrOps ops) r K) (List.range' 0 ops.toList.length) a w := by
 have := evSeq_to (ro := ro) (tl := []) (Q := RPost D C.P φ A w a (wrOps ops) r K) hC hI hD hb ops.toList 0 fr φ A w a (by simp) h hr hs hf (Onw.refl _ _ _) (Kept.refl _ _) hm
  (fun fr' φ' A' w' a' k1 k2 k3 k4 k5 k6 => ⟨φ', A', k2, k4, k6, .inl ⟨fr', rfl, k1.symm, k3, k5⟩⟩) (fun φ' A' w' a' v u k1 k2 k3 k4 k5 k6 => ⟨φ', A', k1, k2, k3, .inr ⟨v, u, rfl, k4, k5, k6⟩⟩)
 simpa using this
end
end Go.Eng
