/-
 The engine, part 9: what a function of the program comes to over an abstract heap; each part is proved against the model.
-/
import Derived.Test.YtlcigkdflbfdgaaGreatDoorEng8
import Derived.Laws.StructEq
import Derived.ChangeKeysEq
namespace Go.Eng
open Go
variable {P : Program} {φ : Phi} {A : AW} {ρ : Type} {r : Res ρ} {w : World}
def DoesV (P : Program) (φ : Phi) (A : AW) (w : World) (r : Res ρ) (K : Value → M ρ) (s : Sem Value) : Prop :=
 ∃ v A' φ' w' v', r = K v A' ∧ s.run P w = .ok v' w' ∧ Sim P φ' A' w' ∧ VR φ' v v' ∧ Onw φ A w φ' A' w'
theorem Pure.does {K : Value → M ρ} {s : Sem Value} (h : Pure P φ A r K s) (hs : Sim P φ A w) : DoesV P φ A w r K s := by
 obtain ⟨v, v', h1, h2, h3⟩ := h
 exact ⟨v, A, φ, w, v', h1, h2 w, hs, h3, Onw.refl _ _ _⟩
def EqRun (P : Program) (w : World) (t : TypeId) (ox oy : Operand) (ux uy : Value) (b : Bool) : Prop :=
 ∀ op, op = BinOp.eql ∨ op = BinOp.neq → (do eqGuard op t ox oy ux uy; binOp op t ux uy : Sem Value).run P w = .ok (.bool (if op = .eql then b else !b)) w
theorem EqRun.mk {t : TypeId} {ox oy : Operand} {ux uy : Value} {b : Bool} (hg : ∀ op, (eqGuard op t ox oy ux uy).run P w = .ok () w) (he : (Op.equal t ux uy).run P w = .ok b w)
  (h1 : ∀ op, op = BinOp.eql → binOp op t ux uy = (do pure (.bool (← Op.equal t ux uy)))) (h2 : ∀ op, op = BinOp.neq → binOp op t ux uy = (do pure (.bool (!(← Op.equal t ux uy))))) : EqRun P w t ox oy ux uy b := by
 intro op h
 rcases h with rfl | rfl
 ·rw [h1 _ rfl]; simp [hg, he]
 ·rw [h2 _ rfl]; simp [hg, he]
theorem frozen_not {fz' : Nat × Nat} {arr : Array Value} {e : TypeId} {c : Addr} (hc : w.heap[c.block]? = some (.cells arr e fz')) (h : fz'.1 = fz'.2) (o : Nat) : w.frozen? ⟨c.block, o, none⟩ = false := by
 obtain ⟨lo, hi⟩ := fz'
 simp only at h
 subst h
 simp only [World.frozen?, hc, Bool.and_eq_false_iff, decide_eq_false_iff_not]
 omega
theorem sameAddr_same {a b : Addr} (h : a.block = b.block) : (sameAddr a b).run P w = .ok (decide (a = b)) w := by
 have : (a.block == b.block) = true := by simp [h]
 simp only [sameAddr, this, if_true, Sem.run_pure]
 congr 1
theorem sameAddr_other {a b : Addr} {x y : Array Value} {e e' : TypeId} {f f' : Nat × Nat} (h : a.block ≠ b.block) (ha : w.heap[a.block]? = some (.cells x e f)) (hb : w.heap[b.block]? = some (.cells y e' f'))
  (h1 : f.1 = f.2) (h2 : f'.1 = f'.2) : (sameAddr a b).run P w = .ok false w := by
 have hne : (a.block == b.block) = false := by simp [h]
 have sa : w.shape? a.block = some (e, x.size) := by simp [World.shape?, ha]
 have sb : w.shape? b.block = some (e', y.size) := by simp [World.shape?, hb]
 have fa := fun o => frozen_not (c := a) ha h1 o
 have fb := fun o => frozen_not (c := b) hb h2 o
 have fa0 : w.frozen? a = false := fa a.off
 have fb0 : w.frozen? b = false := fb b.off
 have va : (viewAt a.block).run P w = .ok none w := by simp [viewAt, shape, Sem.run, sa]
 have vb : (viewAt b.block).run P w = .ok none w := by simp [viewAt, shape, Sem.run, sb]
 have ta : (stringish a).run P w = .ok false w := by simp [stringish, shape, frozen, Sem.run, sa, fa0, fa]
 have tb : (stringish b).run P w = .ok false w := by simp [stringish, shape, frozen, Sem.run, sb, fb0, fb]
 have mb : (mayBeOne a b).run P w = .ok false w := by simp [mayBeOne, ta, tb, shape, Sem.run, sb]
 have na : (noView a).run P w = .ok () w := by simp [noView, va]
 have nb : (noView b).run P w = .ok () w := by simp [noView, vb]
 have fa' : (frozen a).run P w = .ok false w := by simp [frozen, Sem.run, fa0]
 simp [sameAddr, hne, fa', na, nb, mb]
theorem equal_succ (t : TypeId) (x y : Value) : Op.equal t x y = Op.equalIn (9999 + 1) t x y := rfl
theorem in_nilptr {d : Nat} {t e : TypeId} (hu : P.underlying t = some (.pointer e)) (b : Option Addr) : (Op.equalIn (d + 1) t (.pointer none) (.pointer b)).run P w = .ok b.isNone w := by
 rw [Op.equalIn]; simp [run_und hu]
theorem in_ptrnil {d : Nat} {t e : TypeId} (hu : P.underlying t = some (.pointer e)) (a : Addr) : (Op.equalIn (d + 1) t (.pointer (some a)) (.pointer none)).run P w = .ok false w := by
 rw [Op.equalIn]; simp [run_und hu]
theorem in_ptr {d n : Nat} {t e : TypeId} (hu : P.underlying t = some (.pointer e)) (hn : sizeT P e = some (n + 1)) (a b : Addr) :
  (Op.equalIn (d + 1) t (.pointer (some a)) (.pointer (some b))).run P w = (sameAddr a b).run P w := by
 rw [Op.equalIn]; simp [run_und hu, run_size hn]
theorem eqPtr_sound {t e : TypeId} {n : Nat} {a b : Option Addr} {ua ub : Value} {K : Bool → M ρ} (h : M.eqPtr a b K A = r) (hr : r ≠ .stuck) (hs : Sim P φ A w)
  (ha : VR φ (.pointer a) ua) (hb : VR φ (.pointer b) ub) (hu : P.underlying t = some (.pointer e)) (hn : sizeT P e = some (n + 1)) (ox oy : Operand) :
  ∃ c, r = K c A ∧ EqRun P w t ox oy ua ub c := by
 have key : ∀ c, (Op.equal t ua ub).run P w = .ok c w → EqRun P w t ox oy ua ub c := by
  intro c hc
  refine EqRun.mk (fun op => ?_) hc (fun op h => ?_) (fun op h => ?_)
  ·cases ha <;> cases hb <;> (unfold eqGuard; split <;> rfl)
  ·subst h; cases ha <;> cases hb <;> rfl
  ·subst h; cases ha <;> cases hb <;> rfl
 unfold M.eqPtr at h
 cases ha with
 | nilPtr =>
  cases hb with
  | nilPtr => exact ⟨true, h.symm, key _ (by rw [equal_succ, in_nilptr hu]; rfl)⟩
  | ptr hc => exact ⟨false, h.symm, key _ (by rw [equal_succ, in_nilptr hu]; rfl)⟩
 | ptr hc =>
  cases hb with
  | nilPtr => exact ⟨false, h.symm, key _ (by rw [equal_succ, in_ptrnil hu])⟩
  | ptr hd =>
   rename_i a c b d
   simp only at h
   cases hga : A.get a.block with
   | none => rw [hga] at h; exact stuck_ok (A := A) h hr
   | some oa =>
    rw [hga] at h
    cases oa with
    | cells xs ea ga fa ia =>
     cases hgb : A.get b.block with
     | none => rw [hgb] at h; exact stuck_ok (A := A) h hr
     | some ob =>
      rw [hgb] at h
      cases ob with
      | cells ys eb gb fb ib =>
       simp only at h
       obtain ⟨exa, _, hφa, hoa, hsa, hwa, xa, fa', rfl, _, _, _, _, _, hfa, _⟩ := hs.liveA hc hga
       obtain ⟨exb, _, hφb, hob, hsb, hwb, xb, fb', rfl, _, _, _, _, _, hfb, _⟩ := hs.liveA hd hgb
       have hrun : (Op.equal t (.pointer (some c)) (.pointer (some d))).run P w = (sameAddr c d).run P w := by
        rw [equal_succ, in_ptr hu hn]
       cases hcd : (Nat.beq a.block b.block || (!ia && !ib)) with
       | false => rw [hcd] at h; exact stuck_ok (A := A) h hr
       | true =>
        rw [hcd] at h
        refine ⟨decide (a = b), h.symm, key _ ?_⟩
        rw [hrun]
        by_cases he : a.block = b.block
        ·have hbl : c.block = d.block := by
          rw [he] at hφa
          rw [hφa] at hφb
          simpa using congrArg (fun x => x) hφb |> fun h => by simpa using (Option.some.inj (Option.some.inj h) |> Prod.mk.inj |>.1)
         rw [sameAddr_same hbl]
         congr 1
         obtain ⟨ab, ao, asp⟩ := a
         obtain ⟨bb, bo, bsp⟩ := b
         obtain ⟨cb, co, csp⟩ := c
         obtain ⟨db, d_o, dsp⟩ := d
         simp only at he hbl hoa hsa hob hsb
         subst he; subst hbl; subst hoa; subst hsa; subst hob; subst hsb
         simp
        ·have hne : Nat.beq a.block b.block = false := by
          cases hb : Nat.beq a.block b.block
          ·rfl
          ·exact absurd (Nat.eq_of_beq_eq_true hb) he
         rw [hne] at hcd
         simp only [Bool.false_or, Bool.and_eq_true, Bool.not_eq_true'] at hcd
         have hbl : c.block ≠ d.block := fun e => he (hs.inj _ _ _ _ _ hφa (e ▸ hφb))
         rw [sameAddr_other hbl hwa hwb (hfa hcd.1) (hfb hcd.2)]
         congr 1
         simp only [Bool.false_eq, decide_eq_false_iff_not]
         intro e
         exact he (by rw [e])
      | _ => exact stuck_ok (A := A) h hr
    | _ => exact stuck_ok (A := A) h hr
def eqAll : List Value → List Value → Bool
 | [], [] => true
 | x :: xs, y :: ys => eq1 x y && eqAll xs ys
 | _, _ => false
theorem eqCells_all : ∀ (xs ys : List Value), xs.length = ys.length → eqCells xs ys = eqAll xs ys
 | [], [], _ => rfl
 | [x], [y], _ => by simp [eqCells, eqAll]
 | x :: x' :: xs, y :: y' :: ys, h => by
  have := eqCells_all (x' :: xs) (y' :: ys) (by simpa using h)
  simp only [eqCells, eqAll] at this ⊢
  rw [this]
 | [], _ :: _, h => by simp at h
 | _ :: _, [], h => by simp at h
 | [_], _ :: _ :: _, h => by simp at h
 | _ :: _ :: _, [_], h => by simp at h
theorem eqAll_append : ∀ (a c b d : List Value), a.length = c.length → eqAll (a ++ b) (c ++ d) = (eqAll a c && eqAll b d)
 | [], [], _, _, _ => by simp [eqAll]
 | x :: a, y :: c, b, d, h => by
  simp only [List.cons_append, eqAll]
  rw [eqAll_append a c b d (by simpa using h), Bool.and_assoc]
 | [], _ :: _, _, _, h => by simp at h
 | _ :: _, [], _, _, h => by simp at h
theorem take_add_drop {α : Type} (l : List α) (i s : Nat) : l.drop i = (l.drop i).take s ++ l.drop (i + s) := by
 rw [← List.drop_drop, List.take_append_drop]
theorem tiles_le : ∀ (fs : List Field) (i m : Nat), tiles P fs i = some m → i ≤ m
 | [], i, m, h => by simp only [tiles, Option.some.injEq] at h; omega
 | f :: l, i, m, h => by
  simp only [tiles] at h
  obtain ⟨_, h⟩ := cond_some h
  split at h
  ·rename_i s hs; have := tiles_le l (i + s) m h; omega
  ·cases h
def valOf (P : Program) (t : TypeId) (X : List Value) : Value := if isAggT P t then .agg ⟨X⟩ else X.headD undef
theorem part_run {t : TypeId} {s off : Nat} {X : List Value} (hs : sizeT P t = some s) (hl : off + s ≤ X.length) (h1 : isAggT P t = false → s = 1) :
  (part t ⟨X⟩ off).run P w = .ok (valOf P t ((X.drop off).take s)) w := by
 cases hb : isAggT P t with
 | true =>
  simp only [part, Sem.run_bind, run_isAgg hs, Result.andThen_ok, hb, if_true, run_size hs, Sem.run_pure, valOf]
  congr 2
  apply Array.ext'
  simp [List.extract_eq_take_drop]
 | false =>
  have := h1 hb
  subst this
  have hx : off < X.length := by omega
  simp only [part, Sem.run_bind, run_isAgg hs, Result.andThen_ok, hb, Bool.false_eq_true, if_false, valOf]
  rw [show (({ toList := X } : Array Value)[off]?) = some X[off] by simp [hx]]
  simp only [Sem.run_pure]
  rw [List.drop_eq_getElem_cons hx]
  rfl
theorem isOne_eq {o : Option Nat} (h : isOne o = true) : o = some 1 := by
 unfold isOne at h
 split at h
 ·rfl
 ·cases h
theorem plainEq_one {n : Nat} {t : TypeId} (h : plainEq P (n + 1) t = true) : isAggT P t = false → sizeT P t = some 1 := by
 intro ha
 unfold plainEq at h
 unfold isAggT at ha
 split at h <;> rename_i hu
 ·exact isOne_eq h
 ·exact isOne_eq h
 ·exact isOne_eq h
 ·rw [hu] at ha; simp at ha
 ·rw [hu] at ha; simp at ha
 ·cases h
theorem plainEq_in : ∀ (n : Nat) (t : TypeId), plainEq P n t = true → ∀ (d : Nat), n ≤ d → ∀ (X Y : List Value), sizeT P t = some X.length → X.length = Y.length → fitT P n t X = true → fitT P n t Y = true → ∀ w,
  (Op.equalIn d t (valOf P t X) (valOf P t Y)).run P w = .ok (eqAll X Y) w
 | 0, _, h, _, _, _, _, _, _, _, _, _ => by simp [plainEq] at h
 | n + 1, t, h, 0, hd, _, _, _, _, _, _, _ => by omega
 | n + 1, t, h, d + 1, hd, X, Y, hX, hlen, fX, fY, w => by
  have h1 := plainEq_one h
  unfold plainEq at h
  unfold fitT at fX fY
  cases hu : P.underlying t with
  | none => rw [hu] at h; cases h
  | some ds =>
   rw [hu] at h fX fY
   cases ds with
   | struct fs =>
    simp only [Bool.and_eq_true, Bool.not_eq_true'] at h
    simp only at fX fY
    obtain ⟨⟨hst, hall⟩, ht⟩ := h
    have hag : isAggT P t = true := by simp [isAggT, hu]
    have hfo : P.fieldsOf t = fs := by simp [Program.fieldsOf, hu]
    have hv : ∀ Z : List Value, valOf P t Z = .agg ⟨Z⟩ := fun Z => by simp [valOf, hag]
    rw [hv X, hv Y, run_equalIn_struct w d t _ _ (by rw [hfo]; exact hu) hst, hfo]
    split at ht
    ·rename_i a b ha hb
     rw [hX] at hb
     obtain rfl := Option.some.inj hb
     obtain rfl := Nat.eq_of_beq_eq_true ht
     have key : ∀ (l : List Field) (i : Nat), l.all (fun f => !(f.name == "_") && plainEq P n f.type) = true → tiles P l i = some X.length → fitFs P (fitT P n) l (X.drop i) = true → fitFs P (fitT P n) l (Y.drop i) = true →
       (Op.eqFields d ⟨X⟩ ⟨Y⟩ l).run P w = .ok (eqAll (X.drop i) (Y.drop i)) w := by
      intro l
      induction l with
      | nil =>
       intro i _ hi _ _
       simp only [tiles, Option.some.injEq] at hi
       subst hi
       rw [List.drop_length, hlen, List.drop_length]
       rfl
      | cons f l ih =>
       intro i hal hi hcx hcy
       simp only [List.all_cons, Bool.and_eq_true, Bool.not_eq_true'] at hal
       obtain ⟨⟨hnm, hpl⟩, hal⟩ := hal
       simp only [tiles] at hi
       obtain ⟨ho, hi⟩ := cond_some hi
       have ho := Nat.eq_of_beq_eq_true ho
       split at hi
       ·rename_i s hs
        simp only [fitFs, hs, Bool.and_eq_true, List.drop_drop] at hcx hcy
        have hle := tiles_le l _ _ hi
        have hs1 : isAggT P f.type = false → s = 1 := fun e => by
         cases n with
         | zero => simp [plainEq] at hpl
         | succ n => have := plainEq_one hpl e; rw [hs] at this; exact Option.some.inj this
        have hne : f.name ≠ "_" := by simpa using hnm
        have px := part_run (w := w) (X := X) (off := f.offset) hs (by omega) hs1
        have py := part_run (w := w) (X := Y) (off := f.offset) hs (by omega) hs1
        have ltx : ((X.drop i).take s).length = s := by simp; omega
        have lty : ((Y.drop i).take s).length = s := by simp; omega
        have hin := plainEq_in n f.type hpl d (by omega) ((X.drop i).take s) ((Y.drop i).take s) (by rw [ltx]; exact hs) (by rw [ltx, lty]) hcx.1 hcy.1 w
        have hrest := ih (i + s) hal hi hcx.2 hcy.2
        rw [take_add_drop X i s, take_add_drop Y i s, eqAll_append _ _ _ _ (by rw [ltx, lty])]
        rw [ho] at px py
        simp only [Op.eqFields, if_pos hne, Sem.run_bind, ho, px, py, Result.andThen_ok, hin]
        cases hb : eqAll ((X.drop i).take s) ((Y.drop i).take s)
        ·simp
        ·simp [hrest]
       ·cases hi
     have := key fs.toList 0 hall ha fX fY
     simpa using this
    ·cases ht
   | array k e =>
    simp only [Bool.and_eq_true] at h
    obtain ⟨hpl, ht⟩ := h
    simp only at fX fY
    have hag : isAggT P t = true := by simp [isAggT, hu]
    have hv : ∀ Z : List Value, valOf P t Z = .agg ⟨Z⟩ := fun Z => by simp [valOf, hag]
    split at ht
    ·rename_i s m hs hm
     rw [hs] at fX fY
     simp only at fX fY
     rw [hX] at hm
     obtain rfl := Option.some.inj hm
     have hks := Nat.eq_of_beq_eq_true ht
     obtain ⟨i, hi, hc⟩ : ∃ i, P.info? e = some i ∧ P.cellsOf e = s := by
      unfold sizeT at hs
      cases hi : P.info? e with
      | none => rw [hi] at hs; split at hs <;> simp at hs
      | some i =>
       rw [hi] at hs
       refine ⟨i, rfl, ?_⟩
       unfold Program.cellsOf
       rw [hi]
       split at hs
       ·simpa using hs
       ·cases hs
     have hs1 : isAggT P e = false → s = 1 := fun e' => by
      cases n with
      | zero => simp [plainEq] at hpl
      | succ n => have := plainEq_one hpl e'; rw [hs] at this; exact Option.some.inj this
     rw [hv X, hv Y, run_equalIn_array w d _ _ hu hi, hc]
     have key : ∀ (m j : Nat), j + m = k → fitArr (fitT P n e) s m (X.drop (j * s)) = true → fitArr (fitT P n e) s m (Y.drop (j * s)) = true →
       (Op.eqItems d e s ⟨X⟩ ⟨Y⟩ (List.range' j m)).run P w = .ok (eqAll (X.drop (j * s)) (Y.drop (j * s))) w := by
      intro m
      induction m with
      | zero =>
       intro j hj _ _
       have : j * s = X.length := by rw [← hks, ← hj]; simp
       rw [this, List.drop_length, hlen, List.drop_length]
       rfl
      | succ m ih =>
       intro j hj hcx hcy
       have hle : j * s + s ≤ X.length := by
        have : (j + 1) * s ≤ k * s := Nat.mul_le_mul_right s (by omega)
        rw [Nat.succ_mul] at this
        omega
       have hsucc : (j + 1) * s = j * s + s := Nat.succ_mul j s
       simp only [fitArr, Bool.and_eq_true, List.drop_drop] at hcx hcy
       have px := part_run (w := w) (X := X) (off := j * s) hs hle hs1
       have py := part_run (w := w) (X := Y) (off := j * s) hs (by omega) hs1
       have ltx : ((X.drop (j * s)).take s).length = s := by simp; omega
       have lty : ((Y.drop (j * s)).take s).length = s := by simp; omega
       have hin := plainEq_in n e hpl d (by omega) ((X.drop (j * s)).take s) ((Y.drop (j * s)).take s) (by rw [ltx]; exact hs) (by rw [ltx, lty]) hcx.1 hcy.1 w
       have hrest := ih (j + 1) (by omega) (by rw [hsucc]; exact hcx.2) (by rw [hsucc]; exact hcy.2)
       rw [take_add_drop X (j * s) s, take_add_drop Y (j * s) s, eqAll_append _ _ _ _ (by rw [ltx, lty])]
       simp only [List.range'_succ, Op.eqItems, Sem.run_bind, px, py, Result.andThen_ok, hin]
       cases hb : eqAll ((X.drop (j * s)).take s) ((Y.drop (j * s)).take s)
       ·simp
       ·rw [hsucc] at hrest
        simp [hrest]
     have := key k 0 (by omega) (by simpa using fX) (by simpa using fY)
     rw [List.range_eq_range']
     simpa using this
    ·cases ht
   | bool =>
    have hag : isAggT P t = false := by simp [isAggT, hu]
    simp only at fX fY
    split at fX
    ·split at fY
     ·simp only [valOf, hag, Bool.false_eq_true, if_false, List.headD_cons, eqAll, Bool.and_true]
      rw [Op.equalIn]; simp [run_und hu, eq1]
     ·cases fY
    ·cases fX
   | int k =>
    have hag : isAggT P t = false := by simp [isAggT, hu]
    simp only at fX fY
    split at fX
    ·split at fY
     ·obtain rfl := of_decide_eq_true fX
      obtain rfl := of_decide_eq_true fY
      simp only [valOf, hag, Bool.false_eq_true, if_false, List.headD_cons, eqAll, Bool.and_true]
      rw [Op.equalIn]; simp [run_und hu, eq1]
     ·cases fY
    ·cases fX
   | string =>
    have hag : isAggT P t = false := by simp [isAggT, hu]
    simp only at fX fY
    split at fX
    ·split at fY
     ·simp only [valOf, hag, Bool.false_eq_true, if_false, List.headD_cons, eqAll, Bool.and_true]
      rw [Op.equalIn]; simp only [Sem.run_bind, run_und hu, Result.andThen_ok, Sem.run_pure, eq1, beq_toListBytes, bytes_eq]
     ·cases fY
    ·cases fX
   | _ => cases h
theorem plainEq_guard : ∀ (n : Nat) (t : TypeId), plainEq P n t = true → ∀ d, n ≤ d → P.eqGuardType d t = false
 | 0, _, h, _, _ => by simp [plainEq] at h
 | n + 1, t, h, 0, hd => by omega
 | n + 1, t, h, d + 1, hd => by
  unfold plainEq at h
  unfold Program.eqGuardType
  cases hu : P.underlying t with
  | none => rfl
  | some ds =>
   rw [hu] at h
   cases ds <;> first | rfl | (cases h; done) | skip
   case array k e =>
    simp only [Bool.and_eq_true] at h
    exact plainEq_guard n e h.1 d (by omega)
   rename_i fs
   simp only [Bool.and_eq_true] at h
   obtain ⟨⟨_, hall⟩, _⟩ := h
   simp only
   rw [← Array.any_toList]
   rw [List.any_eq_false]
   intro f hf
   have := List.all_eq_true.1 hall f hf
   simp only [Bool.and_eq_true] at this
   simp [plainEq_guard n f.type this.2 d (by omega)]
def simple : Value → Bool
 | .bool _ => true | .int _ _ => true | .string _ => true
 | _ => false
theorem simple_same {v u : Value} (h : simple v = true) (k : VR φ v u) : u = v := by
 cases k <;> first | rfl | (simp [simple] at h)
theorem all_simple_same {l m : List Value} (h : ∀ v ∈ l, simple v = true) (k : Rs φ l m) : m = l := by
 apply List.ext_getElem?
 intro i
 cases hi : l[i]? with
 | none => rw [List.getElem?_eq_none_iff] at hi ⊢; rw [← k.1]; exact hi
 | some v =>
  obtain ⟨u, hu, hvu⟩ := k.get hi
  rw [hu, simple_same (h v (List.mem_of_getElem? hi)) hvu]
theorem fit_simple : ∀ (n : Nat) (t : TypeId), plainEq P n t = true → ∀ (X : List Value), sizeT P t = some X.length → fitT P n t X = true → ∀ v ∈ X, simple v = true
 | 0, _, h, _, _, _ => by simp [plainEq] at h
 | n + 1, t, h, X, hX, fX => by
  unfold plainEq at h
  unfold fitT at fX
  cases hu : P.underlying t with
  | none => rw [hu] at h; cases h
  | some ds =>
   rw [hu] at h fX
   cases ds with
   | struct fs =>
    simp only [Bool.and_eq_true, Bool.not_eq_true'] at h
    simp only at fX
    obtain ⟨⟨_, hall⟩, ht⟩ := h
    split at ht
    ·rename_i a b ha hb
     rw [hX] at hb
     obtain rfl := Option.some.inj hb
     obtain rfl := Nat.eq_of_beq_eq_true ht
     have key : ∀ (l : List Field) (i : Nat), l.all (fun f => !(f.name == "_") && plainEq P n f.type) = true → tiles P l i = some X.length → fitFs P (fitT P n) l (X.drop i) = true → ∀ v ∈ X.drop i, simple v = true := by
      intro l
      induction l with
      | nil =>
       intro i _ hi _ v hv
       simp only [tiles, Option.some.injEq] at hi
       subst hi
       rw [List.drop_length] at hv
       cases hv
      | cons f l ih =>
       intro i hal hi hcx v hv
       simp only [List.all_cons, Bool.and_eq_true, Bool.not_eq_true'] at hal
       obtain ⟨⟨hnm, hpl⟩, hal⟩ := hal
       simp only [tiles] at hi
       obtain ⟨ho, hi⟩ := cond_some hi
       split at hi
       ·rename_i s hs
        simp only [fitFs, hs, Bool.and_eq_true, List.drop_drop] at hcx
        have hle := tiles_le l _ _ hi
        have ltx : ((X.drop i).take s).length = s := by simp; omega
        rw [take_add_drop X i s, List.mem_append] at hv
        rcases hv with hv | hv
        ·exact fit_simple n f.type hpl _ (by rw [ltx]; exact hs) hcx.1 v hv
        ·exact ih (i + s) hal hi hcx.2 v hv
       ·cases hi
     exact key fs.toList 0 hall ha fX
    ·cases ht
   | array k e =>
    simp only [Bool.and_eq_true] at h
    obtain ⟨hpl, ht⟩ := h
    simp only at fX
    split at ht
    ·rename_i s m hs hm
     rw [hs] at fX
     simp only at fX
     rw [hX] at hm
     obtain rfl := Option.some.inj hm
     have hks := Nat.eq_of_beq_eq_true ht
     have key : ∀ (m j : Nat), j + m = k → fitArr (fitT P n e) s m (X.drop (j * s)) = true → ∀ v ∈ X.drop (j * s), simple v = true := by
      intro m
      induction m with
      | zero =>
       intro j hj _ v hv
       have : j * s = X.length := by rw [← hks, ← hj]; simp
       rw [this, List.drop_length] at hv
       cases hv
      | succ m ih =>
       intro j hj hcx v hv
       have hle : j * s + s ≤ X.length := by
        have : (j + 1) * s ≤ k * s := Nat.mul_le_mul_right s (by omega)
        rw [Nat.succ_mul] at this
        omega
       have hsucc : (j + 1) * s = j * s + s := Nat.succ_mul j s
       simp only [fitArr, Bool.and_eq_true, List.drop_drop] at hcx
       have ltx : ((X.drop (j * s)).take s).length = s := by simp; omega
       rw [take_add_drop X (j * s) s, List.mem_append] at hv
       rcases hv with hv | hv
       ·exact fit_simple n e hpl _ (by rw [ltx]; exact hs) hcx.1 v hv
       ·exact ih (j + 1) (by omega) (by rw [hsucc]; exact hcx.2) v (by rw [hsucc]; exact hv)
     have := key k 0 (by omega) (by simpa using fX)
     simpa using this
    ·cases ht
   | bool =>
    simp only at fX
    split at fX
    ·intro v hv; simp at hv; subst hv; rfl
    ·cases fX
   | int k =>
    simp only at fX
    split at fX
    ·intro v hv; simp at hv; subst hv; rfl
    ·cases fX
   | string =>
    simp only at fX
    split at fX
    ·intro v hv; simp at hv; subst hv; rfl
    ·cases fX
   | _ => cases h
theorem plain_same {t : TypeId} {X U : List Value} (h : plainEq P 8 t = true) (hX : sizeT P t = some X.length) (fX : fitT P 8 t X = true) (k : Rs φ X U) : U = X :=
 all_simple_same (fit_simple 8 t h X hX fX) k
theorem EqRun.rest {t : TypeId} {ox oy : Operand} {ux uy : Value} {b : Bool} (hg : ∀ op, (eqGuard op t ox oy ux uy).run P w = .ok () w) (he : (Op.equal t ux uy).run P w = .ok b w)
  (h1 : binOp .eql t ux uy = (do pure (.bool (← Op.equal t ux uy)))) (h2 : binOp .neq t ux uy = (do pure (.bool (!(← Op.equal t ux uy))))) : EqRun P w t ox oy ux uy b :=
 EqRun.mk hg he (fun _ e => e ▸ h1) (fun _ e => e ▸ h2)
theorem aEql_ptr {t : TypeId} {a b : Option Addr} {ua ub : Value} {cx cy : Bool} {ox oy : Operand} {K : Bool → M ρ} (h : aEql P t cx cy (.pointer a) (.pointer b) K A = r) (hr : r ≠ .stuck) (hs : Sim P φ A w)
  (ha : VR φ (.pointer a) ua) (hb : VR φ (.pointer b) ub) : ∃ b, r = K b A ∧ EqRun P w t ox oy ua ub b := by
 rw [aEql_eq] at h
 unfold aEql0 at h
 simp only at h
 cases hu : P.underlying t with
 | none => rw [hu] at h; exact stuck_ok (A := A) h hr
 | some d =>
  rw [hu] at h
  cases d with
  | pointer e =>
   simp only at h
   cases hn : sizeT P e with
   | none => rw [hn] at h; exact stuck_ok (A := A) h hr
   | some n =>
    rw [hn] at h
    cases n with
    | zero => exact stuck_ok (A := A) h hr
    | succ n => exact eqPtr_sound h hr hs ha hb hu hn ox oy
  | _ => exact stuck_ok (A := A) h hr
theorem aEql_sound {t : TypeId} {vx vy ux uy : Value} {cx cy : Bool} {ox oy : Operand} {K : Bool → M ρ} (h : aEql P t cx cy vx vy K A = r) (hr : r ≠ .stuck) (hs : Sim P φ A w)
  (hx : VR φ vx ux) (hy : VR φ vy uy) (hcx : cx = true → ∃ v, ox = .const v) (hcy : cy = true → ∃ v, oy = .const v) : ∃ b, r = K b A ∧ EqRun P w t ox oy ux uy b := by
 have hx0 := hx
 have hy0 := hy
 cases hx with
 | int k a =>
  cases hy with
  | int k' b =>
   rw [aEql_eq] at h
   unfold aEql0 at h
   simp only at h
   obtain ⟨hk, h9⟩ := guard_ok h hr
   obtain rfl := of_decide_eq_true hk
   refine ⟨_, h9.symm, fun op ho => ?_⟩
   rcases ho with rfl | rfl <;> simp [eqGuard, binOp, Op.intCmp, bne]
  | _ => exact stuck_ok (A := A) h hr
 | string a =>
  cases hy with
  | string b =>
   refine ⟨seq a b, h.symm, fun op ho => ?_⟩
   rcases ho with rfl | rfl <;> simp [eqGuard, binOp, Op.stringOp, ← bytes_eq]
  | _ => exact stuck_ok (A := A) h hr
 | bool a =>
  cases hy with
  | bool b =>
   rw [aEql_eq] at h
   unfold aEql0 at h
   simp only at h
   cases hu : P.underlying t with
   | none => rw [hu] at h; exact stuck_ok (A := A) h hr
   | some d =>
    rw [hu] at h
    cases d with
    | bool => exact ⟨_, h.symm, EqRun.rest (fun op => by cases op <;> rfl) (by rw [equal_succ, Op.equalIn]; simp [run_und hu]) rfl rfl⟩
    | _ => exact stuck_ok (A := A) h hr
  | _ => exact stuck_ok (A := A) h hr
 | nilPtr =>
  cases hy with
  | nilPtr => exact aEql_ptr h hr hs hx0 hy0
  | ptr _ => exact aEql_ptr h hr hs hx0 hy0
  | _ => exact stuck_ok (A := A) h hr
 | ptr _ =>
  cases hy with
  | nilPtr => exact aEql_ptr h hr hs hx0 hy0
  | ptr _ => exact aEql_ptr h hr hs hx0 hy0
  | _ => exact stuck_ok (A := A) h hr
 | nilSlice _ =>
  cases hy with
  | nilSlice _ =>
   rw [aEql_eq] at h
   unfold aEql0 at h
   simp only at h
   cases hu : P.underlying t with
   | none => rw [hu] at h; exact stuck_ok (A := A) h hr
   | some d =>
    rw [hu] at h
    cases d with
    | slice e => exact ⟨_, h.symm, EqRun.rest (fun op => by cases op <;> rfl) (by rw [equal_succ, Op.equalIn]; simp [run_und hu]) rfl rfl⟩
    | _ => exact stuck_ok (A := A) h hr
  | slice _ _ =>
   rw [aEql_eq] at h
   unfold aEql0 at h
   simp only at h
   cases hu : P.underlying t with
   | none => rw [hu] at h; exact stuck_ok (A := A) h hr
   | some d =>
    rw [hu] at h
    cases d with
    | slice e => exact ⟨_, h.symm, EqRun.rest (fun op => by cases op <;> rfl) (by rw [equal_succ, Op.equalIn]; simp [run_und hu]) rfl rfl⟩
    | _ => exact stuck_ok (A := A) h hr
  | _ => exact stuck_ok (A := A) h hr
 | slice _ _ =>
  cases hy with
  | nilSlice _ =>
   rw [aEql_eq] at h
   unfold aEql0 at h
   simp only at h
   cases hu : P.underlying t with
   | none => rw [hu] at h; exact stuck_ok (A := A) h hr
   | some d =>
    rw [hu] at h
    cases d with
    | slice e => exact ⟨_, h.symm, EqRun.rest (fun op => by cases op <;> rfl) (by rw [equal_succ, Op.equalIn]; simp [run_und hu]) rfl rfl⟩
    | _ => exact stuck_ok (A := A) h hr
  | slice _ _ =>
   rw [aEql_eq] at h
   unfold aEql0 at h
   simp only at h
   cases hu : P.underlying t with
   | none => rw [hu] at h; exact stuck_ok (A := A) h hr
   | some d =>
    rw [hu] at h
    cases d <;> exact stuck_ok (A := A) h hr
  | _ => exact stuck_ok (A := A) h hr
 | nilMap =>
  cases hy with
  | nilMap =>
   rw [aEql_eq] at h
   unfold aEql0 at h
   simp only at h
   cases hu : P.underlying t with
   | none => rw [hu] at h; exact stuck_ok (A := A) h hr
   | some d =>
    rw [hu] at h
    cases d with
    | map _ _ => exact ⟨_, h.symm, EqRun.rest (fun op => by cases op <;> rfl) (by rw [equal_succ, Op.equalIn]; simp [run_und hu]) rfl rfl⟩
    | _ => exact stuck_ok (A := A) h hr
  | map _ =>
   rw [aEql_eq] at h
   unfold aEql0 at h
   simp only at h
   cases hu : P.underlying t with
   | none => rw [hu] at h; exact stuck_ok (A := A) h hr
   | some d =>
    rw [hu] at h
    cases d with
    | map _ _ => exact ⟨_, h.symm, EqRun.rest (fun op => by cases op <;> rfl) (by rw [equal_succ, Op.equalIn]; simp [run_und hu]) rfl rfl⟩
    | _ => exact stuck_ok (A := A) h hr
  | _ => exact stuck_ok (A := A) h hr
 | map _ =>
  cases hy with
  | nilMap =>
   rw [aEql_eq] at h
   unfold aEql0 at h
   simp only at h
   cases hu : P.underlying t with
   | none => rw [hu] at h; exact stuck_ok (A := A) h hr
   | some d =>
    rw [hu] at h
    cases d with
    | map _ _ => exact ⟨_, h.symm, EqRun.rest (fun op => by cases op <;> rfl) (by rw [equal_succ, Op.equalIn]; simp [run_und hu]) rfl rfl⟩
    | _ => exact stuck_ok (A := A) h hr
  | map _ =>
   rw [aEql_eq] at h
   unfold aEql0 at h
   simp only at h
   cases hu : P.underlying t with
   | none => rw [hu] at h; exact stuck_ok (A := A) h hr
   | some d =>
    rw [hu] at h
    cases d <;> exact stuck_ok (A := A) h hr
  | _ => exact stuck_ok (A := A) h hr
 | nilIface =>
  cases hy with
  | nilIface =>
   rw [aEql_eq] at h
   unfold aEql0 at h
   simp only at h
   cases hu : P.underlying t with
   | none => rw [hu] at h; exact stuck_ok (A := A) h hr
   | some d =>
    rw [hu] at h
    cases d with
    | interface _ =>
     obtain ⟨hc, h⟩ := guard_ok h hr
     refine ⟨_, h.symm, EqRun.rest (fun op => ?_) (by rw [equal_succ, Op.equalIn]; simp [run_und hu]) rfl rfl⟩
     rw [Bool.or_eq_true] at hc
     rcases hc with e | e
     ·obtain ⟨v, rfl⟩ := hcx e
      cases op <;> rfl
     ·obtain ⟨v, rfl⟩ := hcy e
      cases op <;> cases ox <;> rfl
    | _ => exact stuck_ok (A := A) h hr
  | iface _ _ =>
   rw [aEql_eq] at h
   unfold aEql0 at h
   simp only at h
   cases hu : P.underlying t with
   | none => rw [hu] at h; exact stuck_ok (A := A) h hr
   | some d =>
    rw [hu] at h
    cases d with
    | interface _ => exact ⟨_, h.symm, EqRun.rest (fun op => by cases op <;> rfl) (by rw [equal_succ, Op.equalIn]; simp [run_und hu]) rfl rfl⟩
    | _ => exact stuck_ok (A := A) h hr
  | _ => exact stuck_ok (A := A) h hr
 | iface _ _ =>
  cases hy with
  | nilIface =>
   rw [aEql_eq] at h
   unfold aEql0 at h
   simp only at h
   cases hu : P.underlying t with
   | none => rw [hu] at h; exact stuck_ok (A := A) h hr
   | some d =>
    rw [hu] at h
    cases d with
    | interface _ => exact ⟨_, h.symm, EqRun.rest (fun op => by cases op <;> rfl) (by rw [equal_succ, Op.equalIn]; simp [run_und hu]) rfl rfl⟩
    | _ => exact stuck_ok (A := A) h hr
  | _ => exact stuck_ok (A := A) h hr
 | nilFunc =>
  cases hy with
  | nilFunc =>
   rw [aEql_eq] at h
   unfold aEql0 at h
   simp only at h
   cases hu : P.underlying t with
   | none => rw [hu] at h; exact stuck_ok (A := A) h hr
   | some d =>
    rw [hu] at h
    cases d with
    | func _ _ _ => exact ⟨_, h.symm, EqRun.rest (fun op => by cases op <;> rfl) (by rw [equal_succ, Op.equalIn]; simp [run_und hu]) rfl rfl⟩
    | _ => exact stuck_ok (A := A) h hr
  | func _ _ _ _ _ =>
   rw [aEql_eq] at h
   unfold aEql0 at h
   simp only at h
   cases hu : P.underlying t with
   | none => rw [hu] at h; exact stuck_ok (A := A) h hr
   | some d =>
    rw [hu] at h
    cases d with
    | func _ _ _ => exact ⟨_, h.symm, EqRun.rest (fun op => by cases op <;> rfl) (by rw [equal_succ, Op.equalIn]; simp [run_und hu]) rfl rfl⟩
    | _ => exact stuck_ok (A := A) h hr
  | _ => exact stuck_ok (A := A) h hr
 | func _ _ _ _ _ =>
  cases hy with
  | nilFunc =>
   rw [aEql_eq] at h
   unfold aEql0 at h
   simp only at h
   cases hu : P.underlying t with
   | none => rw [hu] at h; exact stuck_ok (A := A) h hr
   | some d =>
    rw [hu] at h
    cases d with
    | func _ _ _ => exact ⟨_, h.symm, EqRun.rest (fun op => by cases op <;> rfl) (by rw [equal_succ, Op.equalIn]; simp [run_und hu]) rfl rfl⟩
    | _ => exact stuck_ok (A := A) h hr
  | _ => exact stuck_ok (A := A) h hr
 | agg hl hac =>
  cases hy with
  | agg kl kac =>
   rename_i xs cs ys ds
   rw [aEql_eq] at h
   unfold aEql0 at h
   simp only at h
   obtain ⟨hk, h⟩ := guard_ok h hr
   simp only [Bool.and_eq_true] at hk
   obtain ⟨⟨⟨hp, fx⟩, fy⟩, hz⟩ := hk
   split at hz
   ·rename_i s hs'
    simp only [Bool.and_eq_true] at hz
    obtain ⟨⟨zx, zy⟩, hag⟩ := hz
    obtain rfl := Nat.eq_of_beq_eq_true zx
    have zy := Nat.eq_of_beq_eq_true zy
    have ex : cs = xs := by
     have := plain_same hp hs' fx ⟨hl, hac⟩
     exact Array.ext' this
    have ey : ds = ys := by
     have := plain_same hp (by rw [← zy]; exact hs') fy ⟨kl, kac⟩
     exact Array.ext' this
    subst ex; subst ey
    have hin := plainEq_in 8 t hp 10000 (by omega) cs.toList ds.toList hs' zy fx fy w
    rw [show valOf P t cs.toList = .agg cs by simp [valOf, hag], show valOf P t ds.toList = .agg ds by simp [valOf, hag], ← eqCells_all _ _ zy] at hin
    refine ⟨_, h.symm, EqRun.rest (fun op => ?_) hin rfl rfl⟩
    have hd : 8 ≤ P.depth := by
     have : Made.depth = 100 := rfl
     unfold Program.depth
     omega
    have hgd := plainEq_guard 8 t hp P.depth hd
    cases op <;> simp [eqGuard, program, Sem.run, hgd]
   ·cases hz
  | _ => exact stuck_ok (A := A) h hr
 | _ => exact stuck_ok (A := A) h hr
end Go.Eng
