/-
  EngP: the operations, all of them.
-/
import Derived.Test.YtcfnndmehnppnaaGreatEngO
namespace Go.Eng
open Go
section
variable {C : Cfg} {I : Interp} {φ : Phi} {A : AW} {ρ : Type} {r : Res ρ} {w : World} {ro : Option Nat} {P : Program} {a : Act} {o : Oper} {K : Value → M ρ}

/-! ### Functions without a body -/
theorem evExt_sound {e : Ext} {args us : List Value} (h : evExt e args K A = r) (hr : r ≠ .stuck) (hs : Sim P φ A w) (ha : Rs φ args us) : DoesV P φ A w r K (extFn e us.toArray) := by
  unfold evExt at h
  match args, us, ha, h with
  | [], us, ha, h => exact stuck_ok (A := A) (by cases e <;> exact h) hr
  | [x], us, ha, h =>
    obtain ⟨u, k, rfl, h1, h2⟩ := ha.cons_inv
    obtain rfl := h2.nil_inv
    cases e with
    | noEscape => exact valW h.symm rfl h1 hs
    | indexByte => exact stuck_ok (A := A) (by cases x <;> exact h) hr
    | countByte => exact stuck_ok (A := A) (by cases x <;> exact h) hr
  | [x, y], us, ha, h =>
    obtain ⟨u, k, rfl, h1, h2⟩ := ha.cons_inv
    obtain ⟨v, k', rfl, h3, h4⟩ := h2.cons_inv
    obtain rfl := h4.nil_inv
    cases e with
    | noEscape => exact stuck_ok (A := A) h hr
    | indexByte =>
      cases h1 with
      | string s =>
        cases h3 with
        | int kd c =>
          cases kd <;> first | (exact stuck_ok (A := A) h hr) | skip
          exact valW h.symm (Lib.run_indexByteString s c w) (.int _ _) hs
        | _ => exact stuck_ok (A := A) h hr
      | _ => exact stuck_ok (A := A) h hr
    | countByte =>
      cases h1 with
      | string s =>
        cases h3 with
        | int kd c =>
          cases kd <;> first | (exact stuck_ok (A := A) h hr) | skip
          exact valW h.symm (Lib.run_countString s c w) (.int _ _) hs
        | _ => exact stuck_ok (A := A) h hr
      | _ => exact stuck_ok (A := A) h hr
  | x :: y :: z :: l, us, ha, h => exact stuck_ok (A := A) (by cases e <;> first | exact h | (cases x <;> first | exact h | (cases y <;> first | exact h | (rename_i k _; cases k <;> exact h)))) hr

/-! ### Calls -/
theorem callF_up (hC : COk C) (hI : IOk C.P I) {g : FuncId} {args us : List Value} (h : callF C I g args K A = r) (hr : r ≠ .stuck) (hs : Sim C.P φ A w) (hg : GlobOk C.P φ) (ha : Rs φ args us) :
    OpUp C.P ro φ A w a o r K (callFunc g us.toArray) := by
  unfold callF at h
  cases he : C.ext g with
  | some e =>
    rw [he] at h
    obtain ⟨fn, h1, h2, h3, h4, h5⟩ := hC.ext g e he
    obtain ⟨v, A', φ', w', v', k1, k2, k3, k4, k5⟩ := evExt_sound h hr hs ha
    unfold OpUp
    simp only [callFunc, Sem.run_bind, run_program, Result.andThen_ok, h1, h2, Bool.false_eq_true, if_false, h3, if_true, run_mark, h4, h5, k2, Sem.run_pure]
    exact ⟨v, v', A', φ', k1, k4, rfl, k3, k5⟩
  | none =>
    rw [he] at h
    simp only at h
    cases hfn : C.P.funcs[g]? with
    | none => rw [hfn] at h; exact stuck_ok (A := A) h hr
    | some fn =>
      rw [hfn] at h
      simp only at h
      cases hb : fn.body with
      | none => rw [hb] at h; exact stuck_ok (A := A) h hr
      | some c =>
        rw [hb] at h
        simp only at h
        have hn := hC.name g fn hfn (by rw [hb]; rfl)
        unfold OpUp
        simp only [callFunc, Sem.run_bind, run_program, Result.andThen_ok, hfn, hn, Bool.false_eq_true, if_false, hb, Option.isNone_some, Sem.run_pure, Oper.uponIn]
        refine ⟨fun e => by simp [Fence.wide] at e, callsIn_Fw ?_⟩
        unfold M.callS M.bind at h
        have hcall : I.call (.call g args) A ≠ .stuck := fun e => by rw [e] at h; exact hr h.symm
        refine CallsIn.mono (hI.call g args A _ rfl hcall φ w us hg hs ha) fun e w1 hend => ?_
        cases e with
        | returned u =>
          obtain ⟨v, φ', A', k1, k2, k3, k4⟩ := hend
          rw [k1] at h
          simp only at h
          obtain ⟨x, hx, h⟩ := need_ok h hr
          rw [RSh.inj_prj hx] at h
          exact ⟨v, u, A', φ', h.symm, k2, rfl, k3, k4⟩
        | panicked chain =>
          obtain ⟨v, u, φ', A', k1, k2, k3, k4, k5⟩ := hend
          rw [k1] at h
          simp only at h
          exact ⟨rfl, v, u, A', φ', by rw [k2], h.symm, k3, k4, k5⟩
        | outgrown => exact hend.elim
theorem callV_up (hC : COk C) (hI : IOk C.P I) {f uf : Value} {args us : List Value} (h : callV C I f args K A = r) (hr : r ≠ .stuck) (hs : Sim C.P φ A w) (hg : GlobOk C.P φ) (hf : VR φ f uf) (ha : Rs φ args us) :
    OpUp C.P ro φ A w a o r K (do let d ← Deferred.ofValue uf us.toArray; invoke d.target d.args) := by
  unfold callV at h
  cases hf with
  | @func f g a1 b1 c1 d1 hfg ha1 hac hb1 hbd =>
    cases f with
    | func f =>
      cases g with
      | func g =>
        obtain rfl : f = g := hfg
        have hR : Rs φ (a1.toList ++ args ++ b1.toList) (c1.toList ++ us ++ d1.toList) := (Rs.append ⟨ha1, hac⟩ ha).append ⟨hb1, hbd⟩
        have := callF_up (ro := ro) (a := a) (o := o) hC hI h hr hs hg hR
        have he : (do let d ← Deferred.ofValue (.func (.func f) c1 d1) us.toArray; invoke d.target d.args : Sem Next) = callFunc f (c1.toList ++ us ++ d1.toList).toArray := by
          have : (c1.toList ++ us ++ d1.toList).toArray = c1 ++ us.toArray ++ d1 := by apply Array.ext'; simp
          rw [this]
          rfl
        rw [he]
        exact this
      | _ => exact hfg.elim
    | yield l =>
      cases g with
      | yield c =>
        obtain ⟨hc, h⟩ := condM_ok h hr
        simp only [Bool.and_eq_true, List.isEmpty_iff] at hc
        have e1 : c1 = #[] := by
          have : c1.toList.length = 0 := by rw [← ha1, hc.1]; rfl
          simpa using this
        subst e1
        unfold M.callS M.bind at h
        have hcall : I.call (.round l args) A ≠ .stuck := fun e => by rw [e] at h; exact hr h.symm
        obtain ⟨f, tmps, assign, body, hy, hround⟩ := hI.round l args A _ rfl hcall φ w c us hg hs hfg ha
        unfold OpUp
        have he : (do let d ← Deferred.ofValue (.func (.yield c) #[] d1) us.toArray; invoke d.target d.args : Sem Next) = Instr.yield c (#[] ++ us.toArray) := rfl
        rw [he, show (#[] ++ us.toArray : Array Value) = us.toArray by simp, hy]
        refine ⟨fun e => by simp [Fence.wide] at e, roundIn_Fw (RoundIn.mono hround fun e w1 hend => ?_)⟩
        cases e with
        | returned u =>
          obtain ⟨v, φ', A', k1, k2, k3, k4⟩ := hend
          rw [k1] at h
          simp only at h
          obtain ⟨x, hx, h⟩ := need_ok h hr
          have hi : Value.bool x = v := RSh.inj_prj (r := .one (.cell .bool)) hx
          rw [hi] at h
          exact ⟨v, u, A', φ', h.symm, k2, rfl, k3, k4⟩
        | panicked chain =>
          obtain ⟨v, u, φ', A', k1, k2, k3, k4, k5⟩ := hend
          rw [k1] at h
          simp only at h
          exact ⟨rfl, v, u, A', φ', by rw [k2], h.symm, k3, k4, k5⟩
        | outgrown => exact hend.elim
      | _ => exact hfg.elim
    | _ => exact stuck_ok (A := A) h hr
  | _ => exact stuck_ok (A := A) h hr
theorem methodA_run {t : TypeId} {name : String} {f : FuncId} {u : Value} {n : Nat} (h : methodA C t name = some f) : (method (n + 1) t u name).run C.P w = .ok (f, u) w := by
  unfold methodA at h
  cases hi : C.P.info? t with
  | none => rw [hi] at h; cases h
  | some i =>
    rw [hi] at h
    simp only at h
    cases hm : i.methods.find? (·.name == name) with
    | none => rw [hm] at h; cases h
    | some m =>
      rw [hm] at h
      simp only at h
      obtain ⟨hp, h⟩ := cond_some h
      have hpe : m.path.toList = [] := by simpa using hp
      have hpi : m.path.isEmpty = true := hp
      cases hmf : m.func with
      | none => rw [hmf] at h; cases h
      | some q =>
        obtain ⟨g, b⟩ := q
        rw [hmf] at h
        cases b with
        | true =>
          simp only at h
          cases hu : C.P.underlying t with
          | none => rw [hu] at h; cases h
          | some d =>
            rw [hu] at h
            cases d <;> first | (cases h; done) | skip
            obtain rfl := Option.some.inj h
            simp only [method, Sem.run_bind, run_info hi, Result.andThen_ok, hm, hpe, follow, Sem.run_pure, hmf, receiverAt, run_und hu, Place.get]
        | false =>
          simp only at h
          cases hu : C.P.underlying t with
          | none => rw [hu] at h; cases h
          | some d =>
            rw [hu] at h
            cases d <;> first | (cases h; done) | skip
            all_goals
              obtain rfl := Option.some.inj h
              simp only [method, Sem.run_bind, run_info hi, Result.andThen_ok, hm, hpe, follow, Sem.run_pure, hmf, receiverAt, run_und hu, Place.get]
end
end Go.Eng
