/-
 The engine, part 17: what a function of the program comes to over an abstract heap; each part is proved against the model.
-/
import Derived.Test.YtlcigkdflbfdgaaGreatDoorEng16
namespace Go.Eng
open Go
section
variable {C : Cfg} {I : Interp} {φ : Phi} {A : AW} {ρ : Type} {r : Res ρ} {w : World} {ro : Option Nat} {P : Program} {a : Act} {o : Oper} {K : Value → M ρ}
theorem uponIn_mono {F : Fence} {n : Nat} {next next' : Act → World → Prop} {Q Q' : Go.Exit → Act → World → Prop} {res : Result Next} (h : o.uponIn F n P a next Q res) (hn : ∀ a w, next a w → next' a w) (hq : ∀ e a w, Q e a w → Q' e a w) :
  o.uponIn F n P a next' Q' res := by
 have hl : LetsOut Q → LetsOut Q' := fun ⟨a, w, h⟩ => ⟨a, w, hq _ _ _ h⟩
 cases res with
 | ok x w' =>
  cases x <;> simp only [Oper.uponIn] at h ⊢ <;>
   first
    | exact hn _ _ h
    | exact ⟨h.1, CallsIn.mono h.2 (fun e w'' he => by cases e <;> first | exact hn _ _ he | exact hq _ _ _ he | exact hl he)⟩
    | exact ⟨h.1, RowsIn.mono h.2 (fun _ _ he => hn _ _ he)⟩
    | exact ⟨h.1, RoundIn.mono h.2 (fun e w'' he => by cases e <;> first | exact hn _ _ he | exact hq _ _ _ he | exact hl he)⟩
 | halt x w' => cases x <;> simp only [Oper.uponIn] at h ⊢ <;> exact hq _ _ _ h
theorem OpUp.typed {R : RSh} {s : Sem Next} (h : OpUp P ro φ A w a o r (fun v => M.need (R.prj v) fun x => K (R.inj x)) s) (hr : r ≠ .stuck) : OpUp P ro φ A w a o r K s := by
 refine uponIn_mono h ?_ fun _ _ _ h => h
 rintro a1 w1 ⟨v, v', A', φ', h1, h2, h3, h4, h5⟩
 obtain ⟨x, hx, h9⟩ := need_ok (A := A') h1.symm hr
 rw [RSh.inj_prj hx] at h9
 exact ⟨v, v', A', φ', h9.symm, h2, h3, h4, h5⟩
theorem aBin_sound {op : BinOp} {t : TypeId} {vx vy ux uy : Value} {cx cy : Bool} {ox oy : Operand} (h : aBin P op t cx cy vx vy K A = r) (hr : r ≠ .stuck) (hs : Sim P φ A w)
  (hx : VR φ vx ux) (hy : VR φ vy uy) (hcx : cx = true → ∃ v, ox = .const v) (hcy : cy = true → ∃ v, oy = .const v) : DoesV P φ A w r K (do eqGuard op t ox oy ux uy; binOp op t ux uy) := by
 have arith : ∀ op, op ≠ .eql → op ≠ .neq → aArith op vx vy K A = r → DoesV P φ A w r K (do eqGuard op t ox oy ux uy; binOp op t ux uy) := by
  intro op h1 h2 h
  obtain ⟨v, v', e1, e2, e3⟩ := aArith_sound (P := P) (t := t) h hr hx hy h1 h2
  refine valW e1 ?_ e3 hs
  have hg : (eqGuard op t ox oy ux uy).run P w = .ok () w := by
   cases op <;> first | exact absurd rfl h1 | exact absurd rfl h2 | rfl
  simp only [Sem.run_bind, hg, Result.andThen_ok, e2]
 unfold aBin at h
 cases op <;> simp only at h
 case eql =>
  obtain ⟨b, e1, e2⟩ := aEql_sound h hr hs hx hy hcx hcy
  exact valW e1 (e2 .eql (.inl rfl)) (.bool _) hs
 case neq =>
  obtain ⟨b, e1, e2⟩ := aEql_sound h hr hs hx hy hcx hcy
  exact valW e1 (e2 .neq (.inr rfl)) (.bool _) hs
 all_goals exact arith _ (by simp) (by simp) h
theorem aBuiltin_sound {b : Builtin} {argTypes : Array TypeId} {ty : TypeId} {consts : Array Bool} {args us : List Value} (h : aBuiltin P b argTypes args K A = r) (hr : r ≠ .stuck) (hs : Sim P φ A w) (ha : Rs φ args us) :
  OpUp P ro φ A w a o r K (builtin b argTypes ty consts us.toArray) := by
 unfold aBuiltin at h
 cases b <;> try (exact stuck_ok (A := A) h hr)
 case len =>
  simp only at h
  cases h0 : argTypes[0]? with
  | none => rw [h0] at h; exact stuck_ok (A := A) h hr
  | some t =>
   rw [h0] at h
   match args, us, ha, h with
   | [v], us, ha, h =>
    obtain ⟨u, k, rfl, h1, h2⟩ := ha.cons_inv
    obtain rfl := h2.nil_inv
    obtain ⟨q, q', e1, e2, e3⟩ := aLen_sound (ty := ty) h hr hs h0 h1
    exact (valW e1 e2 e3 hs).up rfl
   | [], us, ha, h => exact stuck_ok (A := A) h hr
   | _ :: _ :: _, us, ha, h => exact stuck_ok (A := A) h hr
 case append =>
  simp only at h
  cases h0 : argTypes[0]? with
  | none => rw [h0] at h; exact stuck_ok (A := A) h hr
  | some t =>
   rw [h0] at h
   match args, us, ha, h with
   | [y, x], us, ha, h =>
    cases y with
    | slice b n c =>
     obtain ⟨u, k, rfl, h1, h2⟩ := ha.cons_inv
     obtain ⟨ux, k', rfl, h3, h4⟩ := h2.cons_inv
     obtain rfl := h4.nil_inv
     simp only at h
     cases hu : P.underlying t with
     | none => rw [hu] at h; exact stuck_ok (A := A) h hr
     | some d =>
      rw [hu] at h
      cases d with
      | slice e =>
       simp only at h
       cases hn : sizeT P e with
       | none => rw [hn] at h; exact stuck_ok (A := A) h hr
       | some s =>
        cases hb : bytesT P e with
        | none => rw [hn, hb] at h; exact stuck_ok (A := A) h hr
        | some by_ =>
         cases hd : (argTypes[1]?).bind P.underlying with
         | none => rw [hn, hb, hd] at h; exact stuck_ok (A := A) h hr
         | some d =>
          rw [hn, hb, hd] at h
          simp only at h
          obtain ⟨tx, htx, hdx⟩ := Option.bind_eq_some_iff.1 hd
          have key : ∀ (b : Bool) (X Y : M ρ), (cond b X Y) A = r → (b = true ∧ X A = r) ∨ (b = false ∧ Y A = r) := fun b X Y h => by
           cases b
           ·exact .inr ⟨rfl, h⟩
           ·exact .inl ⟨rfl, h⟩
          rcases key _ _ _ h with ⟨hc, h⟩ | ⟨_, h⟩
          rotate_left
          ·cases hz : zeroT P e with
           | none => rw [hz] at h; exact stuck_ok (A := A) (by cases d <;> cases x <;> exact h) hr
           | some z =>
            rw [hz] at h
            cases d with
            | int kk =>
             cases x with
             | int k m =>
              simp only at h
              obtain ⟨hc, h⟩ := condM_ok h hr
              simp only [Bool.and_eq_true] at hc
              exact (appendZ_sound (ty := ty) h hr hs h0 htx hdx hu hn hb hz (Nat.eq_of_beq_eq_true hc.1) hc.2 h1 h3).up rfl
             | _ => exact stuck_ok (A := A) h hr
            | _ => exact stuck_ok (A := A) h hr
          simp only [Bool.and_eq_true] at hc
          obtain ⟨hc1, hc2⟩ := hc
          cases hz : zeroT P e with
          | none => rw [hz] at hc2; cases hc2
          | some z =>
           rw [hz] at hc2
           have hdi : ∀ k, d ≠ .int k := by
            rintro k rfl
            cases hc1
           exact (append_sound (ty := ty) h hr hs h0 htx hdx hdi hu hn hb hz (Nat.eq_of_beq_eq_true hc2) h1 h3).up rfl
      | _ => exact stuck_ok (A := A) h hr
    | _ => exact stuck_ok (A := A) h hr
   | [], us, ha, h => exact stuck_ok (A := A) h hr
   | [x], us, ha, h => exact stuck_ok (A := A) (by cases x <;> exact h) hr
   | x :: y :: z :: l, us, ha, h => exact stuck_ok (A := A) (by cases x <;> exact h) hr
 case cap =>
  simp only at h
  cases h0 : argTypes[0]? with
  | none => rw [h0] at h; exact stuck_ok (A := A) h hr
  | some t =>
   rw [h0] at h
   match args, us, ha, h with
   | [y], us, ha, h =>
    cases y with
    | slice b n c =>
     obtain ⟨u, k, rfl, h1, h2⟩ := ha.cons_inv
     obtain rfl := h2.nil_inv
     simp only at h
     cases hu : P.underlying t with
     | none => rw [hu] at h; exact stuck_ok (A := A) h hr
     | some d =>
      rw [hu] at h
      cases d with
      | slice e =>
       simp only at h
       have run : ∀ (b' : Option Addr) (c' : Nat), (Builtin.cap_ argTypes ty #[.slice b' n c']).run P w = .ok (goInt c') w := fun b' c' => by
        have a0 : (#[Value.slice b' n c'] : Array Value)[0]? = some (.slice b' n c') := rfl
        simp only [Builtin.cap_, h0, a0, Sem.run_bind, run_und hu, Result.andThen_ok, Sem.run_pure]
       unfold M.cap at h
       cases h1 with
       | nilSlice hnc => exact (valW (v := .int .i64 (c : Int)) (v' := goInt c) h.symm (run none c) (.int _ _) hs).up rfl
       | slice _ hsr =>
        rename_i b c1 cap'
        simp only at h
        cases hg : A.get b.block with
        | none => rw [hg] at h; exact absurd h.symm hr
        | some o =>
         rw [hg] at h
         cases o with
         | cells cs e' g fz ish =>
          simp only at h
          cases g with
          | true => exact absurd h.symm hr
          | false =>
           simp only [cond_false] at h
           obtain ⟨_, y, hy, hy2⟩ := hsr
           obtain ⟨d', ex, o', rfl, hw, hobj⟩ := hs.live hg hy
           obtain ⟨arr0, fz', rfl, hsz, hrs0, hgx, _⟩ := hobj
           have hex := hgx rfl
           have hc : cap' = c := by
            have := (hy2 d' ex rfl).1
            omega
           subst hc
           exact (valW (v := .int .i64 (cap' : Int)) (v' := goInt cap') h.symm (run (some c1) cap') (.int _ _) hs).up rfl
         | _ => exact absurd h.symm hr
      | _ => exact stuck_ok (A := A) h hr
    | _ => exact stuck_ok (A := A) h hr
   | [], us, ha, h => exact stuck_ok (A := A) h hr
   | x :: _ :: _, us, ha, h => exact stuck_ok (A := A) (by cases x <;> exact h) hr
 case copy =>
  simp only at h
  cases h0 : argTypes[0]? with
  | none => rw [h0] at h; exact stuck_ok (A := A) h hr
  | some t =>
   rw [h0] at h
   match args, us, ha, h with
   | [y, x], us, ha, h =>
    cases y with
    | slice b n c =>
     obtain ⟨u, k, rfl, h1, h2⟩ := ha.cons_inv
     obtain ⟨ux, k', rfl, h3, h4⟩ := h2.cons_inv
     obtain rfl := h4.nil_inv
     simp only at h
     cases hu : P.underlying t with
     | none => rw [hu] at h; exact stuck_ok (A := A) h hr
     | some d =>
      rw [hu] at h
      cases d with
      | slice e =>
       simp only at h
       cases hn : sizeT P e with
       | none => rw [hn] at h; exact stuck_ok (A := A) h hr
       | some s =>
        rw [hn] at h
        exact (copy_sound (ty := ty) h hr hs h0 hu hn h1 h3).up rfl
      | _ => exact stuck_ok (A := A) h hr
    | _ => exact stuck_ok (A := A) h hr
   | [], us, ha, h => exact stuck_ok (A := A) h hr
   | [x], us, ha, h => exact stuck_ok (A := A) (by cases x <;> exact h) hr
   | x :: y :: z :: l, us, ha, h => exact stuck_ok (A := A) (by cases x <;> exact h) hr
 case clear =>
  simp only at h
  cases h0 : argTypes[0]? with
  | none => rw [h0] at h; exact stuck_ok (A := A) h hr
  | some t =>
   rw [h0] at h
   match args, us, ha, h with
   | [y], us, ha, h =>
    cases y with
    | slice b n c =>
     obtain ⟨u, k, rfl, h1, h2⟩ := ha.cons_inv
     obtain rfl := h2.nil_inv
     simp only at h
     cases hu : P.underlying t with
     | none => rw [hu] at h; exact stuck_ok (A := A) h hr
     | some d =>
      rw [hu] at h
      cases d with
      | slice e =>
       simp only at h
       cases hz : zeroT P e with
       | none => rw [hz] at h; exact stuck_ok (A := A) h hr
       | some z =>
        rw [hz] at h
        simp only at h
        obtain ⟨hc, h⟩ := condM_ok h hr
        simp only [Bool.and_eq_true, ble_iff] at hc
        exact (clear_sound (ty := ty) h hr hs h0 hu hz hc.1 hc.2 h1).up rfl
      | _ => exact stuck_ok (A := A) h hr
    | _ => exact stuck_ok (A := A) h hr
   | [], us, ha, h => exact stuck_ok (A := A) h hr
   | x :: y :: l, us, ha, h => exact stuck_ok (A := A) (by cases x <;> exact h) hr
 case min =>
  match args, us, ha, h with
  | [], us, ha, h => exact stuck_ok (A := A) h hr
  | v :: l, us, ha, h =>
   obtain ⟨u, k, rfl, h1, h2⟩ := ha.cons_inv
   simp only at h
   obtain ⟨x, hx, h⟩ := need_ok h hr
   obtain ⟨y, e1, e2⟩ := minV_sound (P := P) hx h1 h2
   exact (valW h.symm (e1 w) e2 hs).up rfl
 case max =>
  match args, us, ha, h with
  | [], us, ha, h => exact stuck_ok (A := A) h hr
  | v :: l, us, ha, h =>
   obtain ⟨u, k, rfl, h1, h2⟩ := ha.cons_inv
   simp only at h
   obtain ⟨x, hx, h⟩ := need_ok h hr
   obtain ⟨y, e1, e2⟩ := maxV_sound (P := P) hx h1 h2
   exact (valW h.symm (e1 w) e2 hs).up rfl
 case unsafeSliceData =>
  match args, us, ha, h with
  | [x], us, ha, h =>
   obtain ⟨u, k, rfl, h1, h2⟩ := ha.cons_inv
   obtain rfl := h2.nil_inv
   cases h1 with
   | nilSlice _ => exact (valW (s := Builtin.unsafeSliceData_ argTypes ty #[.slice none _ _]) h.symm rfl .nilPtr hs).up rfl
   | @slice b d n c c' hsr =>
    simp only at h
    obtain ⟨hc, h⟩ := guard_ok h hr
    have hc := ble_iff.1 hc
    obtain ⟨m, rfl⟩ : ∃ m, c' = m + 1 := ⟨c' - 1, by have := hsr.1.2; omega⟩
    exact (valW (s := Builtin.unsafeSliceData_ argTypes ty #[.slice (some d) n (m + 1)]) h.symm rfl (.ptr (hsr.ar (by omega))) hs).up rfl
   | _ => exact stuck_ok (A := A) h hr
  | [], us, ha, h => exact stuck_ok (A := A) h hr
  | x :: y :: l, us, ha, h => exact stuck_ok (A := A) (by cases x <;> first | exact h | (rename_i q _ _; cases q <;> exact h)) hr
 case unsafeString =>
  simp only at h
  cases h0 : argTypes[0]? with
  | none => rw [h0] at h; exact stuck_ok (A := A) h hr
  | some t =>
   cases hu : P.underlying t with
   | none => rw [h0, Option.bind_some, hu] at h; exact stuck_ok (A := A) h hr
   | some d =>
    rw [h0, Option.bind_some, hu] at h
    cases d with
    | pointer u' =>
     match args, us, ha, h with
     | [x, y], us, ha, h =>
      obtain ⟨ux, k, rfl, h1, h2⟩ := ha.cons_inv
      obtain ⟨uy, k', rfl, h3, h4⟩ := h2.cons_inv
      obtain rfl := h4.nil_inv
      cases x with
      | pointer p =>
       cases h3 with
       | int kn n =>
        simp only at h
        exact (unsafeStr_sound (ty := ty) h hr hs h0 hu h1).up rfl
       | _ => exact stuck_ok (A := A) h hr
      | _ => exact stuck_ok (A := A) h hr
     | [], us, ha, h => exact stuck_ok (A := A) h hr
     | [x], us, ha, h => exact stuck_ok (A := A) (by cases x <;> exact h) hr
     | x :: y :: z :: l, us, ha, h => exact stuck_ok (A := A) (by cases x <;> first | exact h | (cases y <;> exact h)) hr
    | _ => exact stuck_ok (A := A) h hr
 case delete =>
  simp only at h
  cases h0 : argTypes[0]? with
  | none => rw [h0] at h; exact stuck_ok (A := A) h hr
  | some t =>
   rw [h0] at h
   match args, us, ha, h with
   | [y, x], us, ha, h =>
    cases y with
    | map m =>
     obtain ⟨u, k, rfl, h1, h2⟩ := ha.cons_inv
     obtain ⟨ux, k', rfl, h3, h4⟩ := h2.cons_inv
     obtain rfl := h4.nil_inv
     simp only at h
     cases hu : P.underlying t with
     | none => rw [hu] at h; exact stuck_ok (A := A) h hr
     | some d =>
      rw [hu] at h
      cases d with
      | map kt et =>
       simp only at h
       cases hkt : P.underlying kt with
       | none => rw [hkt] at h; exact stuck_ok (A := A) h hr
       | some kind =>
        rw [hkt] at h
        exact (mapDel_sound (ty := ty) h hr hs h0 hu hkt h1 h3).up rfl
      | _ => exact stuck_ok (A := A) h hr
    | _ => exact stuck_ok (A := A) h hr
   | [], us, ha, h => exact stuck_ok (A := A) h hr
   | [x], us, ha, h => exact stuck_ok (A := A) (by cases x <;> exact h) hr
   | x :: y :: z :: l, us, ha, h => exact stuck_ok (A := A) (by cases x <;> exact h) hr
theorem VR.bool_inv {φ : Phi} {b : Bool} {u : Value} (h : VR φ (.bool b) u) : u = .bool b := by cases h; rfl
theorem VR.int_inv {φ : Phi} {k : IntKind} {n : Int} {u : Value} (h : VR φ (.int k n) u) : u = .int k n := by cases h; rfl
theorem plainZero {P : Program} {e : TypeId} (h : ((zeroT P e).map plain).getD false = true) : ∀ z, zeroT P e = some z → plain z = true := by
 intro z hz
 rw [hz] at h
 exact h
theorem plainElem {P : Program} {t : TypeId} (h : (match P.underlying t with
  | some (.slice e) => ((zeroT P e).map plain).getD false
  | _ => false) = true) : ∀ e z, P.underlying t = some (.slice e) → zeroT P e = some z → plain z = true := by
 intro e z hu hz
 rw [hu] at h
 exact plainZero h z hz
theorem evOp_sound (hC : COk C) (hI : IOk C.P I) {fr : Fr} (h : evOp C I o fr K A = r) (hr : r ≠ .stuck) (hs : Sim C.P φ A w) (hf : FrOk C.P φ fr a) :
  OpUp C.P ro φ A w a o r K (execOp a.eval o) := by
 unfold evOp at h
 have stk : ∀ {p : Prop}, (M.stuck : M ρ) A = r → p := fun h => stuck_ok h hr
 cases ho : o.op with
 | move x =>
  rw [ho] at h
  obtain ⟨v, hv, h⟩ := need_ok h hr
  exact (DoesV.val h.symm (hf.eval hv) hs).up (by unfold execOp; rw [ho]; rfl)
 | assign x =>
  rw [ho] at h
  obtain ⟨v, hv, h⟩ := need_ok h hr
  exact (DoesV.val h.symm (hf.eval hv) hs).up (by unfold execOp; rw [ho]; rfl)
 | pick c x y =>
  rw [ho] at h
  simp only at h
  cases hc : fr.eval C.P c with
  | none => rw [hc] at h; exact stk h
  | some v =>
   rw [hc] at h
   cases v with
   | bool t =>
    have hcv := hf.eval hc
    have hcb : a.eval c = .bool t := hcv.bool_inv
    simp only [M.ite] at h
    cases t with
    | true =>
     obtain ⟨v, hv, h⟩ := need_ok h hr
     exact (DoesV.val h.symm (hf.eval hv) hs).up (by unfold execOp; rw [ho]; simp only [hcb]; rfl)
    | false =>
     obtain ⟨v, hv, h⟩ := need_ok h hr
     exact (DoesV.val h.symm (hf.eval hv) hs).up (by unfold execOp; rw [ho]; simp only [hcb]; rfl)
   | _ => exact stk h
 | alloc e =>
  rw [ho] at h
  simp only at h
  cases hz : zeroT C.P e with
  | none => rw [hz] at h; exact stk h
  | some z =>
   rw [hz] at h
   simp only at h
   obtain ⟨hp, h⟩ := condM_ok h hr
   exact (alloc_sound h hs hz hp).up (by unfold execOp; rw [ho])
 | box e x =>
  rw [ho] at h
  obtain ⟨v, hv, h⟩ := need_ok h hr
  exact (box_sound h hs (hf.eval hv)).up (by unfold execOp; rw [ho])
 | build t parts =>
  rw [ho] at h
  obtain ⟨ps, hps, h⟩ := need_ok h hr
  obtain ⟨hp, h⟩ := condM_ok h hr
  have := (aBuild_sound h hr (hf.evalParts hps) (plainZero hp)).does hs
  refine this.up (by unfold execOp; rw [ho]; simp only; congr 1; congr 1; apply Array.ext'; simp)
 | buildSlice t n parts =>
  rw [ho] at h
  obtain ⟨ps, hps, h⟩ := need_ok h hr
  obtain ⟨hp, h⟩ := condM_ok h hr
  have := aBuildSlice_sound h hr hs (hf.evalParts hps) (plainElem hp)
  refine this.up (by unfold execOp; rw [ho]; simp only; congr 1; congr 1; apply Array.ext'; simp)
 | load t x =>
  rw [ho] at h
  simp only at h
  cases hx : fr.eval C.P x with
  | none => rw [hx] at h; exact stk h
  | some v =>
   rw [hx] at h
   cases hn : sizeT C.P t with
   | none => rw [hn] at h; exact stk (by cases v <;> exact h)
   | some n =>
    rw [hn] at h
    have hxv := hf.eval hx
    cases v with
    | pointer p =>
     simp only at h
     obtain ⟨b, rfl, h⟩ := deref_ok h hr
     generalize hu : a.eval x = u at hxv
     cases hxv with
     | ptr hac =>
      obtain ⟨q, q', e1, e2, e3⟩ := load_sound h hr hs hac hn
      exact (valW (s := Instr.loadAt t (a.eval x)) e1 (by rw [hu]; simp [Instr.loadAt, Instr.sureAddr, e2]) e3 hs).up (by unfold execOp; rw [ho])
    | _ => exact stk h
 | store t x y =>
  rw [ho] at h
  simp only at h
  cases hx : fr.eval C.P x with
  | none => rw [hx] at h; exact stk h
  | some v =>
   rw [hx] at h
   cases hy : fr.eval C.P y with
   | none => rw [hy] at h; exact stk (by cases v <;> exact h)
   | some vy =>
    rw [hy] at h
    cases hn : sizeT C.P t with
    | none => rw [hn] at h; exact stk (by cases v <;> exact h)
    | some n =>
     rw [hn] at h
     have hxv := hf.eval hx
     cases v with
     | pointer p =>
      simp only at h
      obtain ⟨b, rfl, h⟩ := deref_ok h hr
      generalize hu : a.eval x = u at hxv
      cases hxv with
      | ptr hac =>
       obtain ⟨A', w', e1, e2, e3, e4⟩ := store_sound h hr hs hac hn (hf.eval hy)
       exact doesU (s := Instr.storeAt t (a.eval x) (a.eval y)) ⟨A', w', φ, e1, by rw [hu]; simp [Instr.storeAt, Instr.sureAddr, e2], e3, e4⟩ rfl (by unfold execOp; rw [ho])
     | _ => exact stk h
 | waits g =>
  rw [ho] at h
  simp only at h
  obtain ⟨hlt, h⟩ := condM_ok h hr
  have hlt : g < C.P.globals.size := by simpa using hlt
  cases hg : A.get g with
  | none => rw [hg] at h; exact absurd h.symm hr
  | some oa =>
   rw [hg] at h
   cases oa with
   | cells cs e gr fz ish =>
    rcases hf.glob g hlt with hd | ⟨ex, hd⟩
    ·rw [hs.dead g hd] at hg; cases hg
    ·obtain ⟨c, ex', o', hce, hw, arr, fz', rfl, _⟩ := hs.live hg hd
     simp only [Option.some.injEq, Prod.mk.injEq] at hce
     obtain ⟨rfl, rfl⟩ := hce
     exact (valW (s := Instr.waits g) h.symm (by simp [Instr.waits, World.shape?, hw]) (.bool _) hs).up (by unfold execOp; rw [ho])
   | _ => exact absurd h.symm hr
 | nilCheck x =>
  rw [ho] at h
  simp only at h
  cases hx : fr.eval C.P x with
  | none => rw [hx] at h; exact stk h
  | some v =>
   rw [hx] at h
   have hxv := hf.eval hx
   generalize hu : a.eval x = u at hxv
   cases hxv with
   | nilPtr => exact stk h
   | ptr hac => exact (DoesV.val h.symm (.ptr hac) hs).up (by unfold execOp; rw [ho]; simp only [hu]; rfl)
   | @func f g a1 b1 c1 d1 hfg ha1 hac hb1 hbd =>
    cases f with
    | func f =>
     cases g with
     | func g => exact (DoesV.val h.symm (.func hfg ha1 hac hb1 hbd) hs).up (by unfold execOp; rw [ho]; simp only [hu]; rfl)
     | _ => exact hfg.elim
    | yield f =>
     cases g with
     | yield g => exact (DoesV.val h.symm (.func hfg ha1 hac hb1 hbd) hs).up (by unfold execOp; rw [ho]; simp only [hu]; rfl)
     | _ => exact hfg.elim
    | _ => exact stk h
   | iface t hv => exact (DoesV.val h.symm (.iface t hv) hs).up (by unfold execOp; rw [ho]; simp only [hu]; rfl)
   | _ => exact stk h
 | binOp op t x y p =>
  rw [ho] at h
  simp only at h
  cases hx : fr.eval C.P x with
  | none => rw [hx] at h; exact stk h
  | some vx =>
   rw [hx] at h
   cases hy : fr.eval C.P y with
   | none => rw [hy] at h; exact stk h
   | some vy =>
    rw [hy] at h
    refine (aBin_sound (ox := x) (oy := y) h hr hs (hf.eval hx) (hf.eval hy) (fun e => ?_) (fun e => ?_)).up (by unfold execOp; rw [ho])
    ·cases x <;> first | exact ⟨_, rfl⟩ | cases e
    ·cases y <;> first | exact ⟨_, rfl⟩ | cases e
 | unOp op t x =>
  rw [ho] at h
  obtain ⟨v, hv, h⟩ := need_ok h hr
  exact ((aUn_sound h hr (hf.eval hv)).does hs).up (by unfold execOp; rw [ho])
 | convert s d x =>
  rw [ho] at h
  obtain ⟨v, hv, h⟩ := need_ok h hr
  exact (aConvert_sound h hr hs (hf.eval hv)).up (by unfold execOp; rw [ho])
 | makeInterface t x =>
  rw [ho] at h
  simp only at h
  cases hu : C.P.underlying t with
  | none => rw [hu] at h; exact stk h
  | some d =>
   rw [hu] at h
   have main : (M.need (fr.eval C.P x) fun v => K (.iface t v)) A = r → (∀ ms, d ≠ .interface ms) → OpUp C.P ro φ A w a o r K (execOp a.eval o) := by
    intro h hd
    obtain ⟨v, hv, h⟩ := need_ok h hr
    refine (valW (s := Instr.makeInterface t (a.eval x)) h.symm ?_ (.iface t (hf.eval hv)) hs).up (by unfold execOp; rw [ho])
    simp only [Instr.makeInterface, Sem.run_bind, run_und hu, Result.andThen_ok]
    cases d <;> first | rfl | exact absurd rfl (hd _)
   cases d <;> first | exact stk h | exact main h (by intro _ e; cases e)
 | makeFunc f first captured =>
  rw [ho] at h
  simp only at h
  cases f with
  | func g =>
   simp only at h
   obtain ⟨v1, hv1, h⟩ := need_ok h hr
   obtain ⟨v2, hv2, h⟩ := need_ok h hr
   have r1 := hf.evals hv1
   have r2 := hf.evals hv2
   refine (valW (s := Instr.makeFunc (.func g) (first.map a.eval) (captured.map a.eval)) h.symm rfl ?_ hs).up (by unfold execOp; rw [ho])
   refine .func rfl ?_ ?_ ?_ ?_
   ·simpa using r1.1
   ·simpa using r1.2
   ·simpa using r2.1
   ·simpa using r2.2
  | _ => exact stk h
 | makeMap t res =>
  rw [ho] at h
  simp only at h
  have main : (M.new (.map [] 0) fun b => K (.map (some b))) A = r → (∀ w : World, (Instr.makeMap t (res.map a.eval)).run C.P w = .ok (.map (some w.heap.size)) { w with heap := w.heap.push (.map #[] 0) }) → OpUp C.P ro φ A w a o r K (execOp a.eval o) := by
   intro h hrun
   obtain ⟨s1, s2⟩ := hs.alloc (o := .map [] 0) (o' := .map #[] 0) (ex := 0) (w' := { w with heap := w.heap.push (.map #[] 0) }) rfl ⟨#[], rfl, rfl, fun i e f he => by simp at he⟩
   have : DoesV C.P φ A w r K (Instr.makeMap t (res.map a.eval)) := ⟨_, _, _, _, .map (some w.heap.size), h.symm, hrun w, s1, .map ⟨_, setPhi_same _ _ _, fun x y e => by simp at e; exact e.1⟩, s2⟩
   exact this.up (by unfold execOp; rw [ho])
  cases res with
  | none =>
   cases hu : C.P.underlying t with
   | none => rw [hu] at h; exact stk h
   | some d => rw [hu] at h; exact main h (fun w => by simp [Instr.makeMap, newObj, Sem.run])
  | some x =>
   cases hu : C.P.underlying t with
   | none => rw [hu] at h; exact stk h
   | some d =>
    rw [hu] at h
    cases d with
    | map k e =>
     simp only at h
     cases hx : fr.eval C.P x with
     | none => rw [hx] at h; exact stk h
     | some v =>
      rw [hx] at h
      have hxv := hf.eval hx
      cases v with
      | int kd n =>
       have hu' : a.eval x = .int kd n := hxv.int_inv
       exact main h (fun w => by simp [Instr.makeMap, run_und hu, hu', asInt, asIntOf, newObj, Sem.run])
      | _ => exact stk h
    | _ => exact stk h
 | makeSlice t l c =>
  rw [ho] at h
  simp only at h
  cases hx : fr.eval C.P l with
  | none => rw [hx] at h; exact stk h
  | some vl =>
   cases hy : fr.eval C.P c with
   | none => rw [hx, hy] at h; exact stk h
   | some vc =>
    rw [hx, hy] at h
    simp only at h
    obtain ⟨hp, h⟩ := condM_ok h hr
    exact (aMakeSlice_sound h hr hs (hf.eval hx) (hf.eval hy) (plainElem hp)).up (by unfold execOp; rw [ho])
 | slice t x lo hi mx =>
  rw [ho] at h
  simp only at h
  cases hx : fr.eval C.P x with
  | none => rw [hx] at h; exact stk h
  | some v =>
   cases h1 : evalOpt C.P fr lo with
   | none => rw [hx, h1] at h; exact stk h
   | some l =>
    cases h2 : evalOpt C.P fr hi with
    | none => rw [hx, h1, h2] at h; exact stk h
    | some hh =>
     cases h3 : evalOpt C.P fr mx with
     | none => rw [hx, h1, h2, h3] at h; exact stk h
     | some m =>
      rw [hx, h1, h2, h3] at h
      exact ((aSlice_sound h hr (hf.eval hx) (hf.evalOpt h1) (hf.evalOpt h2) (hf.evalOpt h3)).does hs).up (by unfold execOp; rw [ho])
 | fieldAddr s x f =>
  rw [ho] at h
  obtain ⟨v, hv, h⟩ := need_ok h hr
  exact ((aFieldAddr_sound h hr (hf.eval hv)).does hs).up (by unfold execOp; rw [ho])
 | field t x f =>
  rw [ho] at h
  obtain ⟨v, hv, h⟩ := need_ok h hr
  exact ((aField_sound h hr (hf.eval hv)).does hs).up (by unfold execOp; rw [ho])
 | indexAddr t x i =>
  rw [ho] at h
  simp only at h
  cases hx : fr.eval C.P x with
  | none => rw [hx] at h; exact stk h
  | some v =>
   cases hy : fr.eval C.P i with
   | none => rw [hx, hy] at h; exact stk h
   | some ix =>
    rw [hx, hy] at h
    exact ((aIndexAddr_sound h hr (hf.eval hx) (hf.eval hy)).does hs).up (by unfold execOp; rw [ho])
 | index t x i =>
  rw [ho] at h
  simp only at h
  cases hx : fr.eval C.P x with
  | none => rw [hx] at h; exact stk h
  | some v =>
   cases hy : fr.eval C.P i with
   | none => rw [hx, hy] at h; exact stk h
   | some ix =>
    rw [hx, hy] at h
    exact ((aIndex_sound h hr (hf.eval hx) (hf.eval hy)).does hs).up (by unfold execOp; rw [ho])
 | lookup t x i ok =>
  rw [ho] at h
  simp only at h
  cases hx : fr.eval C.P x with
  | none => rw [hx] at h; exact stk h
  | some v =>
   cases hy : fr.eval C.P i with
   | none => rw [hx, hy] at h; exact stk h
   | some ix =>
    rw [hx, hy] at h
    obtain ⟨q, q', e1, e2, e3⟩ := aLookup_sound h hr hs (hf.eval hx) (hf.eval hy)
    exact (valW e1 e2 e3 hs).up (by unfold execOp; rw [ho])
 | mapUpdate t m k x =>
  rw [ho] at h
  simp only at h
  cases hm : fr.eval C.P m with
  | none => rw [hm] at h; exact stk h
  | some vm =>
   cases hk : fr.eval C.P k with
   | none => rw [hm, hk] at h; exact stk h
   | some vk =>
    cases hx : fr.eval C.P x with
    | none => rw [hm, hk, hx] at h; exact stk h
    | some vx =>
     rw [hm, hk, hx] at h
     obtain ⟨A', w', e1, e2, e3, e4⟩ := aMapUpdate_sound h hr hs (hf.eval hm) (hf.eval hk) (hf.eval hx)
     exact doesU ⟨A', w', φ, e1, e2, e3, e4⟩ rfl (by unfold execOp; rw [ho])
 | insert t m k x =>
  rw [ho] at h
  simp only at h
  cases hm : fr.eval C.P m with
  | none => rw [hm] at h; exact stk h
  | some vm =>
   cases hk : fr.eval C.P k with
   | none => rw [hm, hk] at h; exact stk h
   | some vk =>
    cases hx : fr.eval C.P x with
    | none => rw [hm, hk, hx] at h; exact stk h
    | some vx =>
     rw [hm, hk, hx] at h
     obtain ⟨A', w', e1, e2, e3, e4⟩ := aMapUpdate_sound h hr hs (hf.eval hm) (hf.eval hk) (hf.eval hx)
     exact doesU ⟨A', w', φ, e1, e2, e3, e4⟩ rfl (by unfold execOp; rw [ho])
 | range t x =>
  rw [ho] at h
  obtain ⟨v, hv, h⟩ := need_ok h hr
  exact (aRange_sound h hr hs (hf.eval hv)).up (by unfold execOp; rw [ho])
 | next it s =>
  rw [ho] at h
  obtain ⟨v, hv, h⟩ := need_ok h hr
  exact (aNext_sound (ty := o.type) h hr hs (hf.eval hv)).up (by unfold execOp; rw [ho])
 | extract t i =>
  rw [ho] at h
  obtain ⟨v, hv, h⟩ := need_ok h hr
  exact ((aExtract_sound h hr (hf.eval hv)).does hs).up (by unfold execOp; rw [ho])
 | typeAssert x xt t ok =>
  rw [ho] at h
  obtain ⟨v, hv, h⟩ := need_ok h hr
  exact ((aTypeAssert_sound (xt := xt) h hr (hf.eval hv)).does hs).up (by unfold execOp; rw [ho])
 | call c =>
  rw [ho] at h
  simp only at h
  cases hargs : evals C.P fr c.args.toList with
  | none =>
   rw [hargs] at h
   exact stk (by cases hcc : c.callee <;> (rw [hcc] at h; first | exact h | (rename_i f; cases f <;> exact h)))
  | some args =>
   rw [hargs] at h
   have har := hf.evals hargs
   have hau : (c.args.toList.map a.eval).toArray = c.args.map a.eval := by apply Array.ext'; simp
   cases hcc : c.callee with
   | value f =>
    rw [hcc] at h
    have he : execOp a.eval o = (do let d ← Deferred.ofValue (a.eval f) (c.args.toList.map a.eval).toArray; invoke d.target d.args) := by
     unfold execOp; rw [ho]; simp only [resolve, hcc, hau]
    have gen : (M.need (fr.eval C.P f) fun f => callV C I f args fun v => M.need ((rshR C o.type).prj v) fun x => K ((rshR C o.type).inj x)) A = r → OpUp C.P ro φ A w a o r K (execOp a.eval o) := by
     intro h
     obtain ⟨vf, hvf, h⟩ := need_ok h hr
     have := (callV_up (ro := ro) (a := a) (o := o) hC hI h hr hs hf.glob (hf.eval hvf) har).typed hr
     rw [he]; exact this
    cases f with
    | func g =>
     simp only at h
     have hR : Rs φ ((#[] : Array Value).toList ++ args ++ (#[] : Array Value).toList) ((#[] : Array Value).toList ++ c.args.toList.map a.eval ++ (#[] : Array Value).toList) := by simpa using har
     have := callV_up (ro := ro) (a := a) (o := o) (f := .func (.func g) #[] #[]) (uf := .func (.func g) #[] #[]) (args := args) hC hI (by simpa [callV] using h) hr hs hf.glob
      (.func rfl rfl (fun i x y hx => by simp at hx) rfl (fun i x y hx => by simp at hx)) har
     rw [he]; exact this
    | _ => exact gen h
   | invoke rc name =>
    rw [hcc] at h
    simp only at h
    cases hx : fr.eval C.P rc with
    | none => rw [hx] at h; exact stk h
    | some v =>
     rw [hx] at h
     have hxv := hf.eval hx
     generalize hu : a.eval rc = u at hxv
     cases hxv with
     | @iface t v u hvu =>
      simp only at h
      obtain ⟨f, hm, h⟩ := need_ok h hr
      have hrun := methodA_run (C := C) (u := u) (w := w) (n := C.P.types.size + Made.depth - 1) hm
      rw [show C.P.types.size + Made.depth - 1 + 1 = C.P.types.size + Made.depth by have : Made.depth = 100 := rfl; omega] at hrun
      have := (callF_up (ro := ro) (a := a) (o := o) hC hI h hr hs hf.glob (Rs.cons hvu har)).typed hr
      unfold OpUp at this ⊢
      have he : (execOp a.eval o).run C.P w = (callFunc f (u :: c.args.toList.map a.eval).toArray).run C.P w := by
       have hsz : (#[Value.iface t u] ++ c.args.map a.eval).extract 1 (#[Value.iface t u] ++ c.args.map a.eval).size = c.args.map a.eval := by
        apply Array.ext'
        simp only [Array.toList_extract, Array.toList_append, List.extract_eq_take_drop]
        simp
        exact List.take_of_length_le (by simp)
       have h9 : #[u] ++ c.args.map a.eval = (u :: c.args.toList.map a.eval).toArray := by apply Array.ext'; simp
       have h0 : (#[Value.iface t u] ++ c.args.map a.eval)[0]? = some (.iface t u) := by rw [Array.getElem?_append_left (by simp)]; rfl
       unfold execOp
       rw [ho]
       simp only [resolve, hcc, hu, Sem.run_bind, Sem.run_pure, Result.andThen_ok, invoke, h0, callMethod, hsz, run_program, hrun, h9]
      rw [he]; exact this
     | _ => exact stk h
   | builtin b =>
    rw [hcc] at h
    simp only at h
    have := aBuiltin_sound (ro := ro) (a := a) (o := o) (ty := o.type) (consts := c.args.map fun | .const _ => true | _ => false) h hr hs har
    have he : execOp a.eval o = builtin b c.argTypes o.type (c.args.map fun | .const _ => true | _ => false) (c.args.toList.map a.eval).toArray := by
     unfold execOp; rw [ho]; simp only [resolve, hcc]; rw [hau]; rfl
    rw [he]; exact this
 | panic x =>
  rw [ho] at h
  simp only at h
  cases hx : fr.eval C.P x with
  | none => rw [hx] at h; exact stk h
  | some v =>
   rw [hx] at h
   have hxv := hf.eval hx
   generalize hu : a.eval x = u at hxv
   cases hxv with
   | @iface t v u hvu =>
    have h : Res.panic (.iface t v) A = r := h
    unfold OpUp execOp
    rw [ho]
    simp only [hu, Instr.panic, Sem.run_bind, run_goPanic, Result.andThen_halt, Oper.uponIn]
    exact ⟨rfl, _, _, A, φ, rfl, h.symm, .iface t hvu, hs, Onw.refl _ _ _⟩
   | _ => exact stk h
 | _ => rw [ho] at h; exact stk h
end
end Go.Eng
