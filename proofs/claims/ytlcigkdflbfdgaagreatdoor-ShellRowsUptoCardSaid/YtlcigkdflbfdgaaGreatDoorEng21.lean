/-
 The engine, part 21: what a function of the program comes to over an abstract heap; each part is proved against the model.
-/
import Derived.Test.YtlcigkdflbfdgaaGreatDoorEng20
namespace Go.Eng
open Go
section
variable {C : Cfg} {I : Interp} {P : Program} {fr fr' : Fr} {ρ : Type} {φ : Phi} {A : AW} {w : World} {a : Act}
inductive MkV : (Nat → Value) → Prop
 | ptr : MkV (fun b => .pointer (some ⟨b, 0, none⟩))
 | slice (n c : Nat) (h : n ≤ c) : MkV (fun b => .slice (some ⟨b, 0, none⟩) n c)
theorem MkV.vr {vf : Nat → Value} (h : MkV vf) {b d : Nat} (hb : φ b = some (some (d, 0))) : VR φ (vf b) (vf d) := by
 cases h with
 | ptr => exact .ptr (AR.new hb)
 | slice n c h => exact .slice _ (SR.new hb h rfl)
theorem MkV.ext {f g : Nat → Value} (h : MkV f) (k : MkV g) {n : Nat} (e : f n = g n) : f = g := by
 cases h <;> cases k
 ·rfl
 ·simp at e
 ·simp at e
 ·simp at e
  obtain ⟨rfl, rfl⟩ := e
  rfl
def UnifM (m : (ρ : Type) → (Value → M ρ) → M ρ) : Prop := (∀ ρ K, m ρ K = M.stuck) ∨ ∃ vf obj, MkV vf ∧ ∀ ρ K A, m ρ K A = K (vf A.next) (A.alloc obj)
namespace UnifM
theorem none {m : (ρ : Type) → (Value → M ρ) → M ρ} (h : ∀ ρ K, m ρ K = M.stuck) : UnifM m := .inl h
theorem val {m : (ρ : Type) → (Value → M ρ) → M ρ} {vf : Nat → Value} (hv : MkV vf) (obj : AObj) (h : ∀ ρ K A, m ρ K A = K (vf A.next) (A.alloc obj)) : UnifM m := .inr ⟨vf, obj, hv, h⟩
theorem guard {m : (ρ : Type) → (Value → M ρ) → M ρ} (b : Bool) (h : b = true → UnifM m) : UnifM (fun ρ K => M.guard b (m ρ K)) := by
 cases b
 ·exact .inl fun _ _ => rfl
 ·exact h rfl
theorem condS {m : (ρ : Type) → (Value → M ρ) → M ρ} (b : Bool) (h : UnifM m) : UnifM (fun ρ K => cond b (m ρ K) M.stuck) := by
 cases b
 ·exact .inl fun _ _ => rfl
 ·exact h
theorem need {α : Type} {m : α → (ρ : Type) → (Value → M ρ) → M ρ} (o : Option α) (h : ∀ x, UnifM (m x)) : UnifM (fun ρ K => M.need o (fun x => m x ρ K)) := by
 cases o
 ·exact .inl fun _ _ => rfl
 ·exact h _
end UnifM
theorem aBuildSlice_unif (t : TypeId) (len : Nat) (ps : List (Nat × Value)) : UnifM (fun _ K => aBuildSlice P t len ps K) := by
 unfold aBuildSlice
 generalize P.underlying t = d
 cases d with
 | none => exact .none fun _ _ => rfl
 | some d =>
  cases d <;> try (exact .none fun _ _ => rfl)
  rename_i e
  simp only
  generalize sizeT P e = s
  generalize zeroT P e = z
  cases s with
  | none => exact .none fun _ _ => rfl
  | some s =>
   cases z with
   | none => exact .none fun _ _ => rfl
   | some z => exact UnifM.condS _ (UnifM.need _ fun cs => .val (.slice len len (Nat.le_refl _)) (.cells (Row.ofList cs) e false (0, 0) false) fun _ _ _ => rfl)
theorem aMakeSlice_unif (t : TypeId) (x y : Value) : UnifM (fun _ K => aMakeSlice P t x y K) := by
 unfold aMakeSlice
 generalize P.underlying t = d
 cases d with
 | none => exact .none fun _ _ => rfl
 | some d =>
  cases d <;> try (exact .none fun _ _ => rfl)
  rename_i e
  simp only
  generalize sizeT P e = s
  generalize bytesT P e = b
  generalize zeroT P e = z
  cases s with
  | none => exact .none fun _ _ => rfl
  | some s =>
   cases b with
   | none => exact .none fun _ _ => rfl
   | some b =>
    cases z with
    | none => exact .none fun _ _ => rfl
    | some z =>
     simp only
     cases x <;> try (exact .none fun _ _ => rfl)
     cases y <;> try (exact .none fun _ _ => rfl)
     rename_i k l k' c
     refine UnifM.guard _ fun hg => .val (.slice l.toNat c.toNat ?_) (.cells (Row.rep z.cells.toList c.toNat) e false (0, 0) false) fun _ _ _ => rfl
     simp only [Bool.and_eq_true, decide_eq_true_eq] at hg
     omega
theorem kind2 {o : Op} (h : opKind C o = 2) : (∃ e, o = .alloc e) ∨ (∃ e x, o = .box e x) ∨ (∃ t n ps, o = .buildSlice t n ps) ∨ (∃ t l c, o = .makeSlice t l c) := by
 cases o <;> simp only [opKind, reduceCtorEq, Nat.reduceEqDiff] at h
 case alloc e => exact .inl ⟨e, rfl⟩
 case box e x => exact .inr (.inl ⟨e, x, rfl⟩)
 case buildSlice t n ps => exact .inr (.inr (.inl ⟨t, n, ps, rfl⟩))
 case makeSlice t l c => exact .inr (.inr (.inr ⟨t, l, c, rfl⟩))
 case binOp op t x y yt =>
  exfalso
  cases op <;> simp at h
  all_goals split at h <;> simp at h
 case convert s d x => exfalso; split at h <;> simp at h
 case call c =>
  exfalso
  split at h <;> try (simp at h; done)
  split at h <;> simp at h
theorem evOp_unifM {o : Oper} (h : opKind C o.op = 2) : UnifM (fun ρ K => evOp C I (ρ := ρ) o fr K) := by
 unfold evOp
 rcases kind2 h with ⟨e, ho⟩ | ⟨e, x, ho⟩ | ⟨t, n, ps, ho⟩ | ⟨t, l, c, ho⟩ <;> rw [ho] <;> simp only
 ·generalize zeroT C.P e = z
  cases z with
  | none => exact .none fun _ _ => rfl
  | some z => exact UnifM.condS _ (.val .ptr (.cells (Row.ofList z.cells.toList) e false (0, 0) false) fun _ _ _ => rfl)
 ·exact UnifM.need _ fun v => .val .ptr (.cells (Row.ofList v.cells.toList) e false (0, 0) false) fun _ _ _ => rfl
 ·exact UnifM.need _ fun v => UnifM.condS _ (aBuildSlice_unif _ _ _)
 ·generalize fr.eval C.P l = vl
  generalize fr.eval C.P c = vc
  cases vl with
  | none => exact .none fun _ _ => rfl
  | some vl =>
   cases vc with
   | none => exact .none fun _ _ => rfl
   | some vc => exact UnifM.condS _ (aMakeSlice_unif _ _ _)
def MakesS (P : Program) (φ : Phi) (vf : Nat → Value) (obj : AObj) (s : Sem Value) : Prop :=
 ∃ obj', (∀ w : World, s.run P w = .ok (vf w.heap.size) { w with heap := w.heap.push obj' }) ∧ ObjR P φ 0 obj obj'
theorem objR_row {cs : Row} {l : List Value} {arr : Array Value} (hcl : cs.list = l) (hc : Rs φ l arr.toList) (e : TypeId) (g : Bool) : ObjR P φ 0 (.cells cs e g (0, 0) false) (.cells arr e (0, 0)) := by
 subst hcl
 have hl : cs.list.length = arr.size := by simpa using hc.1
 exact ⟨arr, (0, 0), rfl, by rw [hl]; simp, by rw [hl, show arr.size = arr.toList.length by simp, List.take_length]; exact hc, fun _ => rfl, by simp, by intro _ i _; omega, fun _ => rfl, Nat.le_refl _⟩
theorem aBuildSlice_makes {r : Res ρ} {t : TypeId} {len : Nat} {ps qs : List (Nat × Value)} {K : Value → M ρ} (h : aBuildSlice P t len ps K A = r) (hr : r ≠ .stuck) (hp : PsR φ ps qs)
  (hz : ∀ e z, P.underlying t = some (.slice e) → zeroT P e = some z → plain z = true) : ∃ vf obj, MkV vf ∧ r = K (vf A.next) (A.alloc obj) ∧ MakesS P φ vf obj (Instr.buildSlice t len qs.toArray) := by
 unfold aBuildSlice at h
 cases hu : P.underlying t with
 | none => rw [hu] at h; exact stuck_ok (A := A) h hr
 | some d =>
  rw [hu] at h
  cases d with
  | slice e =>
   simp only at h
   cases hn : sizeT P e with
   | none => rw [hn] at h; exact stuck_ok (A := A) h hr
   | some s =>
    rw [hn] at h
    cases hzt : zeroT P e with
    | none => rw [hzt] at h; exact stuck_ok (A := A) h hr
    | some z =>
     rw [hzt] at h
     simp only at h
     obtain ⟨hc, h⟩ := condM_ok h hr
     simp only [Bool.and_eq_true, ble_iff] at hc
     obtain ⟨⟨h24, hl⟩, h1⟩ := hc
     have hl := Nat.eq_of_beq_eq_true hl
     obtain ⟨cs, hcs, h⟩ := need_ok h hr
     obtain ⟨arr, z1, z2, z3⟩ := row_zero (φ := φ) (n := len) hl h1 (hz e z hu hzt)
     obtain ⟨ds, f1, f2⟩ := fill_sound hcs z3 hp
     refine ⟨fun b => .slice (some ⟨b, 0, none⟩) len len, .cells (Row.ofList cs) e false (0, 0) false, .slice _ _ (Nat.le_refl _), h.symm, .cells ds e (0, 0), fun w => ?_, objR_row (Row.ofList_list _) f2 e false⟩
     have h24' : ¬ (len * s > 2 ^ 24) := by omega
     by_cases h0 : len * s = 0
     ·have z1 := z1 h0
      simp only [Instr.buildSlice, Sem.run_bind, run_und hu, Result.andThen_ok, run_size hn, if_neg h24', if_pos h0, z1, f1, newRow, newObj, Sem.run, Sem.run_pure]
     ·have z2 := z2 h0
      simp only [Instr.buildSlice, Sem.run_bind, run_und hu, Result.andThen_ok, run_size hn, if_neg h24', if_neg h0, run_zero hzt, z2, f1, newRow, newObj, Sem.run, Sem.run_pure]
  | _ => exact stuck_ok (A := A) h hr
theorem aMakeSlice_makes {r : Res ρ} {t : TypeId} {vl vc ul uc : Value} {K : Value → M ρ} (h : aMakeSlice P t vl vc K A = r) (hr : r ≠ .stuck) (hvl : VR φ vl ul) (hvc : VR φ vc uc)
  (hz : ∀ e z, P.underlying t = some (.slice e) → zeroT P e = some z → plain z = true) : ∃ vf obj, MkV vf ∧ r = K (vf A.next) (A.alloc obj) ∧ MakesS P φ vf obj (Instr.makeSlice t ul uc) := by
 unfold aMakeSlice at h
 cases hu : P.underlying t with
 | none => rw [hu] at h; exact stuck_ok (A := A) h hr
 | some d =>
  rw [hu] at h
  cases d with
  | slice e =>
   simp only at h
   cases hn : sizeT P e with
   | none => rw [hn] at h; exact stuck_ok (A := A) h hr
   | some s =>
    rw [hn] at h
    cases hb : bytesT P e with
    | none => rw [hb] at h; exact stuck_ok (A := A) h hr
    | some bytes =>
     rw [hb] at h
     cases hzt : zeroT P e with
     | none => rw [hzt] at h; exact stuck_ok (A := A) h hr
     | some z =>
      rw [hzt] at h
      cases hvl with
      | int kl l =>
       cases hvc with
       | int kc c =>
        simp only at h
        obtain ⟨hc, h⟩ := guard_ok h hr
        simp only [Bool.and_eq_true, ble_iff, decide_eq_true_eq] at hc
        obtain ⟨⟨⟨⟨⟨hb1, hl⟩, h1⟩, hl0⟩, hlc⟩, h48⟩ := hc
        have hl := Nat.eq_of_beq_eq_true hl
        obtain ⟨i, hi, hib⟩ := bytesT_some hb
        have hc48 : c ≤ 2 ^ 48 := by
         have : (1 : Int) * c ≤ (bytes : Int) * c := Int.mul_le_mul_of_nonneg_right (by omega) (by omega)
         omega
        have wl : IntKind.i64.wrap l = l := wrap64_of (by omega) (by omega)
        have wc : IntKind.i64.wrap c = c := wrap64_of (by omega) (by omega)
        obtain ⟨arr, z1, z2, z3⟩ := row_zero (φ := φ) (n := c.toNat) hl h1 (hz e z hu hzt)
        refine ⟨fun b => .slice (some ⟨b, 0, none⟩) l.toNat c.toNat, .cells (Row.rep z.cells.toList c.toNat) e false (0, 0) false, .slice _ _ (by omega), h.symm, .cells arr e (0, 0), fun w => ?_, objR_row (Row.rep_list _ _) z3 e false⟩
        have hneg : (decide (c < 0) || decide ((i.bytes : Int) * c > 2 ^ 48) || decide (l < 0) || decide (l > c)) = false := by
         rw [hib]; simp only [Bool.or_eq_false_iff, decide_eq_false_iff_not]; omega
        by_cases h0 : c.toNat * s = 0
        ·have z1 := z1 h0
         simp only [Instr.makeSlice, Sem.run_bind, run_und hu, Result.andThen_ok, asInt, asIntOf, Sem.run_pure, run_info hi, wl, wc, hneg, Bool.false_eq_true, if_false, run_askRoom', run_size hn, if_pos h0, z1, newRow, newObj, Sem.run]
        ·have z2 := z2 h0
         simp only [Instr.makeSlice, Sem.run_bind, run_und hu, Result.andThen_ok, asInt, asIntOf, Sem.run_pure, run_info hi, wl, wc, hneg, Bool.false_eq_true, if_false, run_askRoom', run_size hn, if_neg h0, run_zero hzt, z2, newRow, newObj, Sem.run]
       | _ => exact stuck_ok (A := A) h hr
      | _ => exact stuck_ok (A := A) h hr
  | _ => exact stuck_ok (A := A) h hr
theorem evOp_makes {o : Oper} {r : Res ρ} {K : Value → M ρ} (hk : opKind C o.op = 2) (h : evOp C I o fr K A = r) (hr : r ≠ .stuck) (hf : FrOk C.P φ fr a) :
  ∃ vf obj s, MkV vf ∧ r = K (vf A.next) (A.alloc obj) ∧ MakesS C.P φ vf obj s ∧ execOp a.eval o = (do pure (.value (← s))) := by
 unfold evOp at h
 rcases kind2 hk with ⟨e, ho⟩ | ⟨e, x, ho⟩ | ⟨t, n, ps, ho⟩ | ⟨t, l, c, ho⟩ <;> rw [ho] at h <;> simp only at h
 ·cases hz : zeroT C.P e with
  | none => rw [hz] at h; exact stuck_ok (A := A) h hr
  | some z =>
   rw [hz] at h
   simp only at h
   obtain ⟨hp, h⟩ := condM_ok h hr
   refine ⟨fun b => .pointer (some ⟨b, 0, none⟩), .cells (Row.ofList z.cells.toList) e false (0, 0) false, Instr.alloc e true (.tuple #[]), .ptr, h.symm, ⟨.cells z.cells e (0, 0), fun w => ?_, objR_row (Row.ofList_list _) (plain_cells φ hp) e false⟩, by unfold execOp; rw [ho]⟩
   simp [Instr.alloc, run_zero hz, newVar, newRow, newObj, Sem.run]
 ·obtain ⟨v, hv, h⟩ := need_ok h hr
  refine ⟨fun b => .pointer (some ⟨b, 0, none⟩), .cells (Row.ofList v.cells.toList) e false (0, 0) false, Instr.box e (a.eval x), .ptr, h.symm, ⟨.cells (a.eval x).cells e (0, 0), fun w => ?_, objR_row (Row.ofList_list _) (hf.eval hv).cells e false⟩, by unfold execOp; rw [ho]⟩
  simp [Instr.box, newVar, newRow, newObj, Sem.run]
 ·obtain ⟨vs, hps, h⟩ := need_ok h hr
  obtain ⟨hp, h⟩ := condM_ok h hr
  obtain ⟨vf, obj, h0, h1, h2⟩ := aBuildSlice_makes h hr (hf.evalParts hps) (plainElem hp)
  exact ⟨vf, obj, _, h0, h1, h2, by unfold execOp; rw [ho]; simp only; congr 1; congr 1; apply Array.ext'; simp⟩
 ·cases hx : fr.eval C.P l with
  | none => rw [hx] at h; exact stuck_ok (A := A) h hr
  | some vl =>
   cases hy : fr.eval C.P c with
   | none => rw [hx, hy] at h; exact stuck_ok (A := A) h hr
   | some vc =>
    rw [hx, hy] at h
    simp only at h
    obtain ⟨hp, h⟩ := condM_ok h hr
    obtain ⟨vf, obj, h0, h1, h2⟩ := aMakeSlice_makes h hr (hf.eval hx) (hf.eval hy) (plainElem hp)
    exact ⟨vf, obj, _, h0, h1, h2, by unfold execOp; rw [ho]⟩
theorem Sim.ghost (h : Sim P φ A w) (obj : AObj) : Sim P φ (A.alloc obj) w := by
 have ne : ∀ b, φ b ≠ none → b ≠ A.next := fun b hb e => by have := h.bound b hb; omega
 refine ⟨fun b c ex hb => ?_, h.inj, fun b hb => ?_, fun b hb => ?_, fun b hb => ?_⟩
 ·obtain ⟨x, y, h1, h2, h3⟩ := h.obj b c ex hb
  exact ⟨x, y, by rw [AW.get_alloc, if_neg (ne b (by rw [hb]; simp))]; exact h1, h2, h3⟩
 ·have := h.bound b hb
  simp; omega
 ·rw [AW.get_alloc, if_neg (ne b (by rw [hb]; simp))]
  exact h.dead b hb
 ·simp at hb
  rw [AW.get_alloc, if_neg (by omega)]
  exact h.fresh b (by omega)
theorem Onw.ghost {φ0 : Phi} {A0 : AW} {w0 : World} (h : Onw φ0 A0 w0 φ A w) (obj : AObj) : Onw φ0 A0 w0 φ (A.alloc obj) w :=
 ⟨h.le, h.size, by have := h.next; simp; omega, h.conc, h.range, fun b hb hn => by
  obtain ⟨h1, h2⟩ := h.virt b hb hn
  have := h.next
  exact ⟨h1, by rw [AW.get_alloc, if_neg (by omega)]; exact h2⟩, h.out⟩
theorem Sim.realize (h : Sim P φ A w) {b : Nat} {obj : AObj} {obj' : Obj} (hb : φ b = none) (hlt : b < A.next) (hg : A.get b = some obj) (ho : ObjR P φ 0 obj obj') {w' : World} (e : w'.heap = w.heap.push obj') :
  Sim P (setPhi φ b (some (w.heap.size, 0))) A w' := by
 have hle := le_new (some (w.heap.size, 0)) hb
 refine ⟨fun b' c x hb' => ?_, fun b1 b2 c e1 e2 h1 h2 => ?_, fun b' hb' => ?_, fun b' hb' => ?_, h.fresh⟩
 ·by_cases eb : b' = b
  ·subst eb
   rw [setPhi_same] at hb'
   obtain ⟨rfl, rfl⟩ : w.heap.size = c ∧ 0 = x := by simpa using hb'
   exact ⟨obj, obj', hg, by rw [e]; simp, ho.mono hle⟩
  ·rw [setPhi_ne φ _ eb] at hb'
   obtain ⟨y, z, k1, k2, k3⟩ := h.obj b' c x hb'
   refine ⟨y, z, k1, ?_, k3.mono hle⟩
   have := (Array.getElem?_eq_some_iff.1 k2).1
   rw [e, Array.getElem?_push, if_neg (by omega)]
   exact k2
 ·by_cases eb : b1 = b <;> by_cases eb' : b2 = b
  ·rw [eb, eb']
  ·subst eb
   rw [setPhi_same] at h1
   rw [setPhi_ne φ _ eb'] at h2
   have : w.heap.size = c := by simp at h1; exact h1.1
   have := h.lt h2
   omega
  ·subst eb'
   rw [setPhi_same] at h2
   rw [setPhi_ne φ _ eb] at h1
   have : w.heap.size = c := by simp at h2; exact h2.1
   have := h.lt h1
   omega
  ·rw [setPhi_ne φ _ eb] at h1
   rw [setPhi_ne φ _ eb'] at h2
   exact h.inj b1 b2 c e1 e2 h1 h2
 ·by_cases eb : b' = b
  ·subst eb; exact hlt
  ·rw [setPhi_ne φ _ eb] at hb'
   exact h.bound b' hb'
 ·by_cases eb : b' = b
  ·subst eb; rw [setPhi_same] at hb'; cases hb'
  ·rw [setPhi_ne φ _ eb] at hb'
   exact h.dead b' hb'
theorem Onw.realize {φ0 : Phi} {A0 : AW} {w0 : World} (h : Onw φ0 A0 w0 φ A w) {b : Nat} (hb : φ b = none) (h0 : A0.next ≤ b) {obj' : Obj} {w' : World} (e : w'.heap = w.heap.push obj') (so : SameOut w w' := by exact ⟨rfl, rfl, rfl⟩) :
  Onw φ0 A0 w0 (setPhi φ b (some (w.heap.size, 0))) A w' := by
 refine ⟨h.le.trans (le_new _ hb), by have := h.size; simp [e]; omega, h.next, fun c hc hn => ?_, fun b' c x hb' hc => ?_, fun b' hb' hn => ?_, h.out.trans so⟩
 ·have := h.size
  rw [e, Array.getElem?_push, if_neg (by omega)]
  exact h.conc c hc hn
 ·by_cases eb : b' = b
  ·subst eb
   rw [setPhi_same] at hb'
   have : w.heap.size = c := by simp at hb'; exact hb'.1
   have := h.size
   omega
  ·rw [setPhi_ne φ _ eb] at hb'
   exact h.range b' c x hb' hc
 ·obtain ⟨h1, h2⟩ := h.virt b' hb' hn
  exact ⟨by rw [setPhi_ne φ _ (by omega)]; exact h1, h2⟩
theorem elemB_iff {i : Nat} {l : List Nat} : elemB i l = true ↔ i ∈ l := by
 unfold elemB
 rw [List.any_eq_true]
 constructor
 ·rintro ⟨x, hx, h⟩; rw [Nat.eq_of_beq_eq_true h]; exact hx
 ·intro h; exact ⟨i, h, Nat.beq_refl i⟩
theorem foldl_bits (acc : List Nat) (k : Nat) : ∀ (l : List Nat) (s : Nat), (l.foldl (fun s j => s ||| 2 ^ j ||| acc.getD j 0) s).testBit k = true → s.testBit k = true ∨ ∃ j ∈ l, j = k ∨ (acc.getD j 0).testBit k = true
 | [], s, h => .inl h
 | j :: l, s, h => by
  simp only [List.foldl_cons] at h
  rcases foldl_bits acc k l _ h with h | ⟨i, hi, h⟩
  ·rw [Nat.testBit_or, Nat.testBit_or, Bool.or_eq_true, Bool.or_eq_true] at h
   rcases h with (h | h) | h
   ·exact .inl h
   ·rw [Nat.testBit_two_pow] at h
    exact .inr ⟨j, by simp, .inl (by simpa using h)⟩
   ·exact .inr ⟨j, by simp, .inr h⟩
  ·exact .inr ⟨i, by simp [hi], h⟩
theorem befores_pre : ∀ (l : List Oper) (acc : List Nat) (j : Nat), j < acc.length → (befores l acc).getD j 0 = acc.getD j 0
 | [], _, _, _ => rfl
 | o :: l, acc, j, h => by
  rw [befores, befores_pre l _ j (by simp; omega)]
  rw [List.getD_eq_getElem?_getD, List.getD_eq_getElem?_getD, List.getElem?_append_left h]
theorem befores_spec : ∀ (l : List Oper) (acc : List Nat) (i k : Nat), ((befores l acc).getD i 0).testBit k = true → acc.length ≤ i →
  ∃ o, l[i - acc.length]? = some o ∧ ∃ j ∈ predsOf o, j = k ∨ (j < i ∧ ((befores l acc).getD j 0).testBit k = true)
 | [], acc, i, k, h, hi => by
  rw [befores, List.getD_eq_getElem?_getD, List.getElem?_eq_none hi] at h
  simp at h
 | o :: l, acc, i, k, h, hi => by
  rw [befores] at h ⊢
  by_cases e : i = acc.length
  ·subst e
   refine ⟨o, by simp, ?_⟩
   rw [befores_pre _ _ _ (by simp)] at h
   rw [List.getD_eq_getElem?_getD, List.getElem?_append_right (Nat.le_refl _)] at h
   simp only [Nat.sub_self, List.getElem?_cons_zero, Option.getD_some] at h
   rcases foldl_bits acc k _ _ h with h | ⟨j, hj, h⟩
   ·simp at h
   ·refine ⟨j, hj, ?_⟩
    rcases h with h | h
    ·exact .inl h
    ·right
     have hlt : j < acc.length := by
      rcases Nat.lt_or_ge j acc.length with h' | h'
      ·exact h'
      ·rw [List.getD_eq_getElem?_getD, List.getElem?_eq_none h'] at h; simp at h
     refine ⟨hlt, ?_⟩
     rw [befores_pre _ _ _ (by simp; omega), List.getD_eq_getElem?_getD, List.getElem?_append_left hlt, ← List.getD_eq_getElem?_getD]
     exact h
  ·obtain ⟨o', h1, h2⟩ := befores_spec l _ i k h (by simp; omega)
   refine ⟨o', ?_, h2⟩
   simp only [List.length_append, List.length_cons, List.length_nil] at h1
   rw [← h1]
   have : i - acc.length = (i - (acc.length + (0 + 1))) + 1 := by omega
   rw [this]; rfl
theorem waits_spec {ops : List Oper} {i k : Nat} (h : waitsFor (befores ops []) i k = true) : ∃ o, ops[i]? = some o ∧ ∃ j ∈ predsOf o, j = k ∨ (j < i ∧ waitsFor (befores ops []) j k = true) := by
 obtain ⟨o, h1, h2⟩ := befores_spec ops [] i k h (Nat.zero_le _)
 exact ⟨o, by simpa using h1, h2⟩
theorem waits_closed {ops : List Oper} {S : Nat → Prop} (hS : ∀ i o, S i → ops[i]? = some o → ∀ j ∈ predsOf o, S j) {k : Nat} : ∀ (i : Nat) , (∀ o, ops[i]? = some o → ∀ j ∈ predsOf o, S j) → waitsFor (befores ops []) i k = true → S k := by
 intro i
 induction i using Nat.strongRecOn with
 | _ i ih =>
  intro hp h
  obtain ⟨o, ho, j, hj, h⟩ := waits_spec h
  rcases h with rfl | ⟨hlt, h⟩
  ·exact hp o ho j hj
  ·exact ih j hlt (fun o' ho' => hS j o' (hp o ho j hj) ho') h
theorem slots_all {ops : List Oper} {B : List Nat} (h : slotsOk C ops B = true) {i : Nat} {o : Oper} (ho : ops[i]? = some o) :
  (∀ j ∈ predsOf o, j < i) ∧ ∀ k u, ops[k]? = some u → ∀ d, u.dst = some d →
   (opKind C u.op = 3 → i = k ∨ opKind C o.op = 3 ∨ d ∉ readsOf ops o ∨ waitsFor B i k = true ∨ waitsFor B k i = true) ∧
   (opKind C u.op ≠ 3 → (d ∉ readsOf ops o ∨ (i ≠ k ∧ waitsFor B i k = true)) ∧ (i = k ∨ o.dst ≠ some d)) := by
 unfold slotsOk at h
 have h1 := List.all_eq_true.1 h (o, i) (List.mem_zipIdx_iff_getElem?.2 ho)
 simp only [Bool.and_eq_true] at h1
 refine ⟨fun j hj => ?_, fun k u hu d hd => ?_⟩
 ·have h9 := List.all_eq_true.1 h1.1 j hj
  have h9 : Nat.blt j i = true := h9
  simpa using h9
 ·have h2 := List.all_eq_true.1 h1.2 (u, k) (List.mem_zipIdx_iff_getElem?.2 hu)
  simp only [hd] at h2
  have mem : (!elemB d (readsOf ops o)) = true → d ∉ readsOf ops o := fun h hm => by
   rw [elemB_iff.2 hm] at h; cases h
  constructor
  ·intro h3
   rw [h3] at h2
   have e33 : Nat.beq 3 3 = true := rfl
   rw [e33] at h2
   simp only [cond_true, Bool.or_eq_true] at h2
   rcases h2 with (((h2 | h2) | h2) | h2) | h2
   ·exact .inl (Nat.eq_of_beq_eq_true h2)
   ·exact .inr (.inl (Nat.eq_of_beq_eq_true h2))
   ·exact .inr (.inr (.inl (mem h2)))
   ·exact .inr (.inr (.inr (.inl h2)))
   ·exact .inr (.inr (.inr (.inr h2)))
  ·intro h3
   have : Nat.beq (opKind C u.op) 3 = false := by
    cases hb : Nat.beq (opKind C u.op) 3
    ·rfl
    ·exact absurd (Nat.eq_of_beq_eq_true hb) h3
   rw [this] at h2
   simp only [cond_false, Bool.and_eq_true, Bool.or_eq_true] at h2
   obtain ⟨h2, h4⟩ := h2
   constructor
   ·rcases h2 with h2 | ⟨h2, h5⟩
    ·exact .inl (mem h2)
    ·refine .inr ⟨fun e => ?_, h5⟩
     rw [e] at h2
     simp at h2
   ·rcases h4 with h4 | h4
    ·exact .inl (Nat.eq_of_beq_eq_true h4)
    ·right
     intro e
     rw [e] at h4
     simp at h4
theorem mem_readyNow {ops : List Oper} {done : List Nat} {i : Nat} : i ∈ readyNow ops done ↔ ∃ o, ops[i]? = some o ∧ i ∉ done ∧ ∀ j ∈ predsOf o, j ∈ done := by
 unfold readyNow
 rw [List.mem_map]
 constructor
 ·rintro ⟨⟨o, i'⟩, h, rfl⟩
  rw [List.mem_filter, List.mem_zipIdx_iff_getElem?] at h
  obtain ⟨h1, h2⟩ := h
  simp only [Bool.and_eq_true, Bool.not_eq_true'] at h2
  refine ⟨o, h1, fun hm => ?_, fun j hj => ?_⟩
  ·rw [elemB_iff.2 hm] at h2; cases h2.1
  ·exact elemB_iff.1 (List.all_eq_true.1 h2.2 j hj)
 ·rintro ⟨o, h1, h2, h3⟩
  refine ⟨(o, i), ?_, rfl⟩
  rw [List.mem_filter, List.mem_zipIdx_iff_getElem?]
  refine ⟨h1, ?_⟩
  simp only [Bool.and_eq_true, Bool.not_eq_true']
  refine ⟨?_, List.all_eq_true.2 fun j hj => elemB_iff.2 (h3 j hj)⟩
  cases he : elemB i done
  ·rfl
  ·exact absurd (elemB_iff.1 he) h2
theorem mem_predsOf {o : Oper} {j : Nat} : j ∈ predsOf o ↔ ∃ e ∈ o.after, Region.binds .any e = true ∧ e.on = j := by
 unfold predsOf
 rw [List.mem_map]
 simp only [List.mem_filter, Array.mem_toList_iff]
 constructor
 ·rintro ⟨e, ⟨h1, h2⟩, h3⟩; exact ⟨e, h1, h2, h3⟩
 ·rintro ⟨e, h1, h2, h3⟩; exact ⟨e, ⟨h1, h2⟩, h3⟩
end
end Go.Eng
