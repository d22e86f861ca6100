/-
 The engine, part 15: what a function of the program comes to over an abstract heap; each part is proved against the model.
-/
import Derived.Test.YtlcigkdflbfdgaaGreatDoorEng14
import Derived.DefersIn
namespace Go.Eng
open Go
def MarksOk (base : Nat) (φ : Phi) (w : World) (ds : List Deferred) : Prop :=
 (∀ d ∈ ds, ∃ r, d.target = .collected r ∧ base ≤ r ∧ w.heap[r]? = some (.deferred (some [])) ∧ ∀ b ex, φ b ≠ some (some (r, ex))) ∧ (ds.map (·.target)).Pairwise (fun a b => ∀ r, a = .collected r → b ≠ .collected r)
theorem MarksOk.nil (base : Nat) (φ : Phi) (w : World) : MarksOk base φ w [] := ⟨fun _ h => (by cases h), .nil⟩
theorem MarksOk.onw {base : Nat} {φ φ' : Phi} {A A' : AW} {w w' : World} {ds : List Deferred} (h : MarksOk base φ w ds) (o : Onw φ A w φ' A' w') : MarksOk base φ' w' ds :=
 ⟨fun d hd => by
  obtain ⟨r, h1, h0, h2, h3⟩ := h.1 d hd
  have hlt := (Array.getElem?_eq_some_iff.1 h2).1
  exact ⟨r, h1, h0, by rw [o.conc r hlt h3]; exact h2, fun b ex hb => by
   obtain ⟨b0, e0, h0⟩ := o.range b r ex hb hlt
   exact h3 b0 e0 h0⟩, h.2⟩
abbrev DInv := Phi → World → List Deferred → Prop
structure Stays (D : DInv) : Prop where
 onw : ∀ {φ φ' : Phi} {A A' : AW} {w w' : World} {ds : List Deferred}, D φ w ds → Onw φ A w φ' A' w' → D φ' w' ds
structure Marks (D : DInv) : Prop where
 push : ∀ {φ φ' : Phi} {A A' : AW} {w w' : World} {ds : List Deferred}, D φ w ds → Onw φ A w φ' A' w' → w'.heap[w.heap.size]? = some (.deferred (some [])) → (∀ b ex, φ' b ≠ some (some (w.heap.size, ex))) →
 D φ' w' ({ target := .collected w.heap.size, args := #[] } :: ds)
def marksD (base : Nat) (X : List Deferred) : DInv := fun φ w ds => ∃ ms, ds = ms ++ X ∧ base ≤ w.heap.size ∧ MarksOk base φ w ms
theorem marksD_stays (base : Nat) (X : List Deferred) : Stays (marksD base X) := ⟨fun ⟨ms, h1, h2, h3⟩ o => ⟨ms, h1, Nat.le_trans h2 o.size, h3.onw o⟩⟩
theorem marksD_marks (base : Nat) (X : List Deferred) : Marks (marksD base X) := by
 constructor
 rintro φ φ' A A' w w' ds ⟨ms, rfl, h2, h3⟩ o hw hf
 refine ⟨{ target := .collected w.heap.size, args := #[] } :: ms, rfl, Nat.le_trans h2 o.size, fun d hd => ?_, ?_⟩
 ·rcases List.mem_cons.1 hd with rfl | hd
  ·exact ⟨_, rfl, h2, hw, hf⟩
  ·exact (h3.onw o).1 d hd
 ·simp only [List.map_cons, List.pairwise_cons]
  refine ⟨fun t ht r0 e1 e2 => ?_, h3.2⟩
  obtain ⟨d, hd, rfl⟩ := List.mem_map.1 ht
  obtain ⟨r', g1, _, g2, _⟩ := h3.1 d hd
  rw [e2] at g1
  injection e1 with e1
  injection g1 with g1
  have := (Array.getElem?_eq_some_iff.1 g2).1
  omega
theorem marksD_nil {base : Nat} {φ : Phi} {w : World} (X : List Deferred) (h : base ≤ w.heap.size) : marksD base X φ w X := ⟨[], rfl, h, MarksOk.nil _ _ _⟩
def noneD : DInv := fun _ _ ds => ds = []
theorem noneD_stays : Stays noneD := ⟨fun h _ => h⟩
def GlobOk (P : Program) (φ : Phi) : Prop := ∀ g, g < P.globals.size → φ g = some none ∨ ∃ ex, φ g = some (some (g, ex))
theorem GlobOk.mono {P : Program} {φ ψ : Phi} (h : GlobOk P φ) (l : Le φ ψ) : GlobOk P ψ := fun g hg => by
 rcases h g hg with e | ⟨ex, e⟩
 ·rcases l _ _ e with e' | e' <;> exact .inl e'
 ·rcases l _ _ e with e' | e'
  ·exact .inr ⟨ex, e'⟩
  ·exact .inl e'
theorem GlobOk.vr {P : Program} {φ : Phi} (h : GlobOk P φ) {g : Nat} (hg : g < P.globals.size) : VR φ (.pointer (some ⟨g, 0, none⟩)) (.pointer (some ⟨g, 0, none⟩)) := by
 rcases h g hg with e | ⟨ex, e⟩
 ·exact .ptr ⟨none, e, fun _ _ h => by cases h⟩
 ·exact .ptr ⟨_, e, fun x y h => by simp at h; exact ⟨rfl, rfl, h.1⟩⟩
def CallEnd (P : Program) (φ : Phi) (A : AW) (w : World) (r : Res Value) : Ending → World → Prop
 | .returned u, w1 => ∃ v φ' A', r = .ok v A' ∧ VR φ' v u ∧ Sim P φ' A' w1 ∧ Onw φ A w φ' A' w1
 | .panicked chain, w1 => ∃ v u φ' A', r = .panic v A' ∧ chain = [{ v := u, recovered := false }] ∧ VR φ' v u ∧ Sim P φ' A' w1 ∧ Onw φ A w φ' A' w1
 | .outgrown, _ => False
def ModeOk (φ : Phi) (rc : Option Value) (u : FrameMode) : Prop := match rc with
 | none => u = .returning
 | some v => ∃ x, VR φ v x ∧ u = .panicking [{ v := x, recovered := false }]
def DEnd (P : Program) (φ : Phi) (A : AW) (w : World) (v : Value) (A1 : AW) (u : FrameMode) : Ending → FrameMode → World → Prop := fun e u' w1 =>
 ∃ y b φ', e = .returned y ∧ v = .bool b ∧ Sim P φ' A1 w1 ∧ Onw φ A w φ' A1 w1 ∧ ((b = false ∧ u' = u) ∨ (b = true ∧ ∃ x, u = .panicking [{ v := x, recovered := false }] ∧ u' = .panicking [{ v := x, recovered := true }]))
structure IOk (P : Program) (I : Interp) : Prop where
 call : ∀ f args A r, I.call (.call f args) A = r → r ≠ .stuck → ∀ φ w uargs, GlobOk P φ → Sim P φ A w → Rs φ args uargs → CallsIn Fence.wide 0 P f uargs.toArray w (CallEnd P φ A w r)
 round : ∀ l args A r, I.call (.round l args) A = r → r ≠ .stuck → ∀ φ w c uargs, GlobOk P φ → Sim P φ A w → BR φ l c → Rs φ args uargs →
  ∃ f tmps assign body, (Instr.yield c uargs.toArray).run P w = .ok (.round c f tmps assign body) w ∧ RoundIn Fence.wide 0 P c f tmps assign body w (CallEnd P φ A w r)
 callD : ∀ g args rc v A A1, I.call (.deferred g args rc) A = .ok v A1 → ∀ φ w us u, GlobOk P φ → Sim P φ A w → Rs φ args us → ModeOk φ rc u → CallsDIn Fence.wide 0 P g us.toArray u w (DEnd P φ A w v A1 u)
 loop : ∀ {σ ρ : Type} (f : σ → M (σ ⊕ ρ)) s A r, I.loop f s A = r → r ≠ .stuck → ∃ n, whileN f n s A = r
def extFn : Ext → Array Value → Sem Value
 | .indexByte => Extern.BytealgIndexByte.indexByte
 | .countByte => Extern.BytealgCount.count
 | .noEscape => Extern.AbiNoEscape.same
 | .cmpString => Extern.BytealgCompare.compare
 | .makeNoZero ps rs => Extern.BytealgMakeNoZero.makeNoZero ps rs
 | .mapsClone => Extern.MapsClone.clone
structure COk (C : Cfg) : Prop where
 name : ∀ (f : FuncId) fn, C.P.funcs[f]? = some fn → fn.body.isSome = true → (fn.name == "runtime.NumGoroutine") = false
 ext : ∀ g e, C.ext g = some e → ∃ fn, C.P.funcs[g]? = some fn ∧ (fn.name == "runtime.NumGoroutine") = false ∧ fn.body.isNone = true ∧ Extern.findNext fn = none ∧ Extern.find fn = some (extFn e)
 mixed : C.P.follows .mixedOrders = true
abbrev Fw (ro : Option Nat) : Fence := { Fence.wide with round := ro }
theorem callsIn_Fw {ro : Option Nat} {n : Nat} {P : Program} {f : FuncId} {args : Array Value} {w : World} {R : Ending → World → Prop} (h : CallsIn Fence.wide n P f args w R) : CallsIn (Fw ro) n P f args w R := h
theorem roundIn_Fw {ro : Option Nat} {n : Nat} {P : Program} {l : Nat} {f : FuncId} {tmps : Array Value} {a b : Code} {w : World} {R : Ending → World → Prop} (h : RoundIn Fence.wide n P l f tmps a b w R) : RoundIn (Fw ro) n P l f tmps a b w R := h
section
variable {C : Cfg} {I : Interp} {φ : Phi} {A : AW} {ρ : Type} {r : Res ρ} {w : World} {ro : Option Nat}
def OpNext (P : Program) (φ : Phi) (A : AW) (w : World) (a : Act) (dst : Option Tmp) (r : Res ρ) (K : Value → M ρ) : Act → World → Prop := fun a1 w1 =>
 ∃ v v' A' φ', r = K v A' ∧ VR φ' v v' ∧ a1 = a.put dst v' ∧ Sim P φ' A' w1 ∧ Onw φ A w φ' A' w1
def OpPan (P : Program) (φ : Phi) (A : AW) (w : World) (a : Act) (r : Res ρ) : Go.Exit → Act → World → Prop := fun e a1 w1 =>
 a1 = a ∧ ∃ v u A' φ', e = .panic [{ v := u, recovered := false }] ∧ r = .panic v A' ∧ VR φ' v u ∧ Sim P φ' A' w1 ∧ Onw φ A w φ' A' w1
def OpUp (P : Program) (ro : Option Nat) (φ : Phi) (A : AW) (w : World) (a : Act) (o : Oper) (r : Res ρ) (K : Value → M ρ) (s : Sem Next) : Prop :=
 o.uponIn (Fw ro) 0 P a (OpNext P φ A w a o.dst r K) (OpPan P φ A w a r) (s.run P w)
variable {P : Program} {a : Act} {o : Oper} {K : Value → M ρ}
theorem DoesV.up {s : Sem Value} (h : DoesV P φ A w r K s) {s' : Sem Next} (he : s' = (do pure (.value (← s)))) : OpUp P ro φ A w a o r K s' := by
 obtain ⟨v, A', φ', w', v', h1, h2, h3, h4, h5⟩ := h
 unfold OpUp
 rw [he]
 simp only [Sem.run_bind, h2, Result.andThen_ok, Sem.run_pure]
 exact ⟨v, v', A', φ', h1, h4, rfl, h3, h5⟩
theorem valW {s : Sem Value} {v v' : Value} (h1 : r = K v A) (h2 : s.run P w = .ok v' w) (h3 : VR φ v v') (hs : Sim P φ A w) : DoesV P φ A w r K s := ⟨v, A, φ, w, v', h1, h2, hs, h3, Onw.refl _ _ _⟩
theorem DoesV.val {v v' : Value} (h1 : r = K v A) (h3 : VR φ v v') (hs : Sim P φ A w) : DoesV P φ A w r K (pure v') := valW h1 rfl h3 hs
theorem doesU {s : Sem Unit} {Ku : M ρ} (h : ∃ A' w' φ', r = Ku A' ∧ s.run P w = .ok () w' ∧ Sim P φ' A' w' ∧ Onw φ A w φ' A' w') (hK : K undef = Ku) {s' : Sem Next} (he : s' = (do s; pure .skip)) : OpUp P ro φ A w a o r K s' := by
 obtain ⟨A', w', φ', h1, h2, h3, h4⟩ := h
 unfold OpUp
 rw [he]
 simp only [Sem.run_bind, h2, Result.andThen_ok, Sem.run_pure]
 have hu : VR φ' undef undef := .tuple rfl (fun i x y hx => by simp at hx)
 exact ⟨undef, undef, A', φ', by rw [hK]; exact h1, hu, rfl, h3, h4⟩
structure FrOk (P : Program) (φ : Phi) (fr : Fr) (a : Act) : Prop where
 env : EnvR φ fr.env a.tmps
 glob : GlobOk P φ
theorem FrOk.eval {fr : Fr} (h : FrOk P φ fr a) {x : Operand} {v : Value} (hx : fr.eval P x = some v) : VR φ v (a.eval x) := by
 cases x with
 | tmp t =>
  obtain ⟨u, hu, hv⟩ := h.env t v hx
  have : a.eval (.tmp t) = u := by simp [Act.eval, Array.getD_eq_getD_getElem?, hu]
  rw [this]; exact hv
 | const c =>
  simp only [Fr.eval] at hx
  obtain ⟨hp, hx⟩ := cond_some hx
  obtain rfl := Option.some.inj hx
  exact plain_VR φ hp
 | global g =>
  simp only [Fr.eval] at hx
  obtain ⟨hp, hx⟩ := cond_some hx
  obtain rfl := Option.some.inj hx
  exact h.glob.vr (by simpa using hp)
 | func f =>
  simp only [Fr.eval, Option.some.injEq] at hx
  subst hx
  exact .func rfl rfl (fun i x y hx => by simp at hx) rfl (fun i x y hx => by simp at hx)
theorem FrOk.evals {fr : Fr} (h : FrOk P φ fr a) : ∀ {xs : List Operand} {vs : List Value}, evals P fr xs = some vs → Rs φ vs (xs.map a.eval)
 | [], vs, hx => by simp only [Eng.evals, Option.some.injEq] at hx; subst hx; exact Rs.nil
 | x :: xs, vs, hx => by
  simp only [Eng.evals] at hx
  split at hx
  ·rename_i v vs' h1 h2
   obtain rfl := Option.some.inj hx
   exact Rs.cons (h.eval h1) (h.evals h2)
  ·cases hx
theorem FrOk.evalParts {fr : Fr} (h : FrOk P φ fr a) : ∀ {xs : List (Nat × Operand)} {vs : List (Nat × Value)}, evalParts P fr xs = some vs → PsR φ vs (xs.map fun (i, x) => (i, a.eval x))
 | [], vs, hx => by simp only [Eng.evalParts, Option.some.injEq] at hx; subst hx; exact ⟨rfl, fun i a b h => by simp at h⟩
 | (i, x) :: xs, vs, hx => by
  simp only [Eng.evalParts] at hx
  split at hx
  ·rename_i v vs' h1 h2
   obtain rfl := Option.some.inj hx
   have ih := h.evalParts h2
   refine ⟨by simp [ih.1], fun k p q hp hq => ?_⟩
   cases k with
   | zero =>
    simp at hp hq
    subst hp; subst hq
    exact ⟨rfl, h.eval h1⟩
   | succ k => exact ih.2 k p q (by simpa using hp) (by simpa using hq)
  ·cases hx
theorem FrOk.evalOpt {fr : Fr} (h : FrOk P φ fr a) {x : Option Operand} {v : Option Value} (hx : evalOpt P fr x = some v) : OptR φ v (x.map a.eval) := by
 cases x with
 | none => simp only [Eng.evalOpt, Option.some.injEq] at hx; subst hx; trivial
 | some x =>
  obtain ⟨u, hu, rfl⟩ := Option.map_eq_some_iff.1 hx
  exact h.eval hu
end
end Go.Eng
