/-
 The engine, part 8: what a function of the program comes to over an abstract heap; each part is proved against the model.
-/
import Derived.Test.YtlcigkdflbfdgaaGreatDoorEng7
namespace Go.Eng
open Go
variable {P : Program} {φ : Phi} {A : AW} {ρ : Type} {r : Res ρ}
theorem byteAt_run {s : ByteArray} {i : Int} (h0 : 0 ≤ i) (h1 : i < (s.size : Int)) : (if 0 ≤ i then s[i.toNat]? else none) = some (s.data.toList.getD i.toNat 0) := by
 rw [if_pos h0]
 have h2 : i.toNat < s.size := by omega
 rw [getElem?_pos s i.toNat h2]
 congr 1
 have h3 : i.toNat < s.data.toList.length := by rw [Array.length_toList]; exact h2
 rw [List.getD_eq_getElem?_getD, List.getElem?_eq_getElem h3]
 rfl
theorem aIndex_sound {t : TypeId} {v u ix jx : Value} {K : Value → M ρ} (h : aIndex P t v ix K A = r) (hr : r ≠ .stuck) (hv : VR φ v u) (hi : VR φ ix jx) :
  Pure P φ A r K (Instr.index t u jx) := by
 rw [aIndex_eq] at h
 unfold aIndex0 at h
 cases hu : P.underlying t with
 | none => rw [hu] at h; exact stuck_ok (A := A) h hr
 | some d =>
  rw [hu] at h
  cases d with
  | array n e =>
   cases hi with
   | int k i =>
    cases hv with
    | agg hl hac =>
     rename_i cs ds
     simp only at h
     cases hn : sizeT P e with
     | none => rw [hn] at h; exact stuck_ok (A := A) h hr
     | some sz =>
      rw [hn] at h
      simp only at h
      obtain ⟨hb, h⟩ := guard_ok h hr
      simp only [Bool.and_eq_true, decide_eq_true_eq] at hb
      obtain ⟨x, y, h1, h2, h3⟩ := aPart_sound h hr (⟨hl, hac⟩ : Rs φ cs.toList ds.toList)
      exact ⟨x, y, h1, fun w => by simp [Instr.index, asIntOf, run_und hu, hb.1, hb.2, run_size hn, h2 w], h3⟩
    | _ => exact stuck_ok (A := A) h hr
   | _ => exact stuck_ok (A := A) (by cases hv <;> exact h) hr
  | string =>
   cases hi with
   | int k i =>
    cases hv with
    | string s =>
     simp only at h
     obtain ⟨hb, h⟩ := guard_ok h hr
     simp only [Bool.and_eq_true, decide_eq_true_eq] at hb
     refine ⟨_, _, h.symm, fun w => ?_, .int _ _⟩
     simp only [Instr.index, asIntOf, Sem.run_bind, Sem.run_pure, Result.andThen_ok, run_und hu, byteAt_run hb.1 hb.2]
     rfl
    | _ => exact stuck_ok (A := A) h hr
   | _ => exact stuck_ok (A := A) (by cases hv <;> exact h) hr
  | _ => exact stuck_ok (A := A) h hr
theorem aExtract_sound {v u : Value} {i : Nat} {K : Value → M ρ} (h : aExtract v i K A = r) (hr : r ≠ .stuck) (hv : VR φ v u) : Pure P φ A r K (Instr.extract u i) := by
 unfold aExtract at h
 cases hv with
 | tuple hl hac =>
  rename_i cs ds
  simp only [tupOf] at h
  cases hx : cs.toList[i]? with
  | none => rw [hx] at h; exact stuck_ok (A := A) h hr
  | some x =>
   rw [hx] at h
   obtain ⟨y, hy, hxy⟩ := Rs.get (⟨hl, hac⟩ : Rs φ cs.toList ds.toList) hx
   have hy' : ds[i]? = some y := by simpa using hy
   exact ⟨x, y, h.symm, fun w => by simp [Instr.extract, hy'], hxy⟩
 | _ => exact stuck_ok (A := A) h hr
theorem minV_sound {v u x : Value} {vs us : List Value} (h : minV v vs = some x) (hv : VR φ v u) (hs : Rs φ vs us) : ∃ y, (∀ w, (us.foldlM Builtin.min2 u : Sem Value).run P w = .ok y w) ∧ VR φ x y := by
 induction vs generalizing v u us with
 | nil =>
  obtain rfl := hs.nil_inv
  cases v <;> (simp only [minV, Option.some.injEq] at h; subst h; exact ⟨u, fun w => rfl, hv⟩)
 | cons a l ih =>
  obtain ⟨b, m, rfl, hab, hlm⟩ := hs.cons_inv
  cases hv <;> cases hab <;> simp only [minV, reduceCtorEq] at h
  rename_i k n k' n'
  cases hk : decide (k = k') with
  | false => rw [hk] at h; cases h
  | true =>
   rw [hk] at h
   obtain ⟨y, h1, h2⟩ := ih h (.int _ _) hlm
   exact ⟨y, fun w => by simp only [List.foldlM_cons, Sem.run_bind, Builtin.min2, Sem.run_pure, Result.andThen_ok, h1 w], h2⟩
theorem maxV_sound {v u x : Value} {vs us : List Value} (h : maxV v vs = some x) (hv : VR φ v u) (hs : Rs φ vs us) : ∃ y, (∀ w, (us.foldlM Builtin.max2 u : Sem Value).run P w = .ok y w) ∧ VR φ x y := by
 induction vs generalizing v u us with
 | nil =>
  obtain rfl := hs.nil_inv
  cases v <;> (simp only [maxV, Option.some.injEq] at h; subst h; exact ⟨u, fun w => rfl, hv⟩)
 | cons a l ih =>
  obtain ⟨b, m, rfl, hab, hlm⟩ := hs.cons_inv
  cases hv <;> cases hab <;> simp only [maxV, reduceCtorEq] at h
  rename_i k n k' n'
  cases hk : decide (k = k') with
  | false => rw [hk] at h; cases h
  | true =>
   rw [hk] at h
   obtain ⟨y, h1, h2⟩ := ih h (.int _ _) hlm
   exact ⟨y, fun w => by simp only [List.foldlM_cons, Sem.run_bind, Builtin.max2, Sem.run_pure, Result.andThen_ok, h1 w], h2⟩
def PsR (φ : Phi) (ps qs : List (Nat × Value)) : Prop := ps.length = qs.length ∧ ∀ (i : Nat) (a b : Nat × Value), ps[i]? = some a → qs[i]? = some b → a.1 = b.1 ∧ VR φ a.2 b.2
theorem foldl_set : ∀ (vs : List Value) (cs : Array Value) (off k : Nat), off + k + vs.length ≤ cs.size →
  ((vs.zipIdx k).foldl (fun (cs : Array Value) (x : Value × Nat) => cs.setIfInBounds (off + x.2) x.1) cs).toList = setAt cs.toList (off + k) vs
 | [], cs, off, k, _ => by
  have : setAt cs.toList (off + k) [] = cs.toList := by cases cs.toList <;> cases (off + k) <;> rfl
  rw [this]; rfl
 | v :: vs, cs, off, k, h => by
  simp only [List.zipIdx_cons, List.foldl_cons]
  rw [foldl_set vs _ off (k + 1) (by simp at h ⊢; omega), Array.toList_setIfInBounds]
  have hl : off + k < cs.toList.length := by simp at h ⊢; omega
  rw [setAt_eq _ _ _ (by simp at h ⊢; omega), setAt_eq _ _ _ (by simp at h ⊢; omega)]
  rw [show off + (k + 1) = off + k + 1 by omega, show off + k + (v :: vs).length = off + k + 1 + vs.length by simp; omega]
  rw [List.drop_set_of_lt (by omega), take_set_succ hl]
  simp
theorem fill_sound {place : Nat → Option (Nat × Nat)} {zs : List Value} {cs : Array Value} {ps qs : List (Nat × Value)} {out : List Value}
  (h : fillA place zs ps = some out) (hz : Rs φ zs cs.toList) (hp : PsR φ ps qs) : ∃ ds : Array Value, Instr.fill place cs qs = some ds ∧ Rs φ out ds.toList := by
 induction ps generalizing zs cs qs with
 | nil =>
  have : qs = [] := by
   have := hp.1
   cases qs
   ·rfl
   ·simp at this
  subst this
  simp only [fillA, Option.some.injEq] at h
  subst h
  exact ⟨cs, rfl, hz⟩
 | cons p ps ih =>
  cases qs with
  | nil => have := hp.1; simp at this
  | cons q qs =>
   obtain ⟨i, v⟩ := p
   obtain ⟨j, u⟩ := q
   obtain ⟨hij, hvu⟩ := hp.2 0 (i, v) (j, u) rfl rfl
   simp only at hij hvu
   subst hij
   have hp' : PsR φ ps qs := ⟨by simpa using hp.1, fun k a b ha hb => hp.2 (k + 1) a b (by simpa using ha) (by simpa using hb)⟩
   simp only [fillA] at h
   cases hpl : place i with
   | none => rw [hpl] at h; cases h
   | some os =>
    obtain ⟨off, size⟩ := os
    rw [hpl] at h
    obtain ⟨hb, h⟩ := cond_some h
    simp only [Bool.and_eq_true, ble_iff] at hb
    have hs := Nat.eq_of_beq_eq_true hb.1
    have hvc := hvu.cells
    have hus : u.cells.size = size := by rw [← hs, hvc.1]; simp
    have hcs : off + u.cells.size ≤ cs.size := by rw [hus]; have := hz.1; simp at this; omega
    have hset := hz.setAt (n := off) hvc (by rw [hs]; omega)
    have he : (u.cells.zipIdx.foldl (fun (cs : Array Value) (x : Value × Nat) => cs.setIfInBounds (off + x.2) x.1) cs).toList = setAt cs.toList off u.cells.toList := by
     have := foldl_set u.cells.toList cs off 0 (by simp; omega)
     simp only [Nat.add_zero] at this
     rw [← this, ← Array.foldl_toList, Array.toList_zipIdx]
    rw [← he] at hset
    obtain ⟨ds, h1, h2⟩ := ih h hset hp'
    refine ⟨ds, ?_, h2⟩
    simp only [Instr.fill, hpl]
    have hneg : ¬ ((decide (u.cells.size ≠ size) || decide (off + u.cells.size > cs.size)) = true) := by
     simp only [Bool.or_eq_true, decide_eq_true_eq]; omega
    rw [if_neg hneg]
    exact h1
theorem places_run {w : World} : ∀ {fs : List Field} {ps : List (Nat × Nat)}, placesT P fs = some ps →
  (fs.mapM (fun f => do pure (f.offset, ← sizeOf f.type) : Field → Sem (Nat × Nat))).run P w = .ok ps w
 | [], ps, h => by simp only [placesT, Option.some.injEq] at h; subst h; simp
 | f :: l, ps, h => by
  simp only [placesT] at h
  split at h
  ·rename_i s qs hs hq
   obtain rfl := Option.some.inj h
   simp only [List.mapM_cons, Sem.run_bind, run_size hs, Result.andThen_ok, Sem.run_pure, places_run hq]
  ·cases h
theorem aBuild_sound {t : TypeId} {ps qs : List (Nat × Value)} {K : Value → M ρ} (h : aBuild P t ps K A = r) (hr : r ≠ .stuck) (hp : PsR φ ps qs)
  (hz : ∀ z, zeroT P t = some z → plain z = true) : Pure P φ A r K (Instr.build t qs.toArray) := by
 unfold aBuild at h
 cases hzt : zeroT P t with
 | none => rw [hzt] at h; exact stuck_ok (A := A) h hr
 | some z =>
  rw [hzt] at h
  have hzc := plain_cells φ (hz z hzt)
  simp only at h
  cases hu : P.underlying t with
  | none => rw [hu] at h; exact stuck_ok (A := A) h hr
  | some d =>
   rw [hu] at h
   cases d with
   | struct fs =>
    simp only at h
    cases hpl : placesT P fs.toList with
    | none => rw [hpl] at h; exact stuck_ok (A := A) h hr
    | some pl =>
     rw [hpl] at h
     obtain ⟨cs, hcs, h⟩ := need_ok h hr
     obtain ⟨ds, h1, h2⟩ := fill_sound hcs hzc hp
     refine ⟨_, .agg ds, h.symm, fun w => ?_, .agg h2.1 h2.2⟩
     have hm : (fs.mapM (fun f => do pure (f.offset, ← sizeOf f.type) : Field → Sem (Nat × Nat))).run P w = .ok pl.toArray w := by
      rw [Array.mapM_eq_mapM_toList, Sem.run_map, places_run hpl]
      rfl
     simp only [Instr.build, Sem.run_bind, run_zero hzt, Result.andThen_ok, run_und hu, hm]
     have he : (fun (i : Nat) => (pl.toArray)[i]?) = (fun (i : Nat) => pl[i]?) := by funext i; simp
     rw [he, h1]
     rfl
   | array n e =>
    simp only at h
    cases hn : sizeT P e with
    | none => rw [hn] at h; exact stuck_ok (A := A) h hr
    | some s =>
     rw [hn] at h
     obtain ⟨cs, hcs, h⟩ := need_ok h hr
     obtain ⟨ds, h1, h2⟩ := fill_sound hcs hzc hp
     refine ⟨_, .agg ds, h.symm, fun w => ?_, .agg h2.1 h2.2⟩
     simp only [Instr.build, Sem.run_bind, run_zero hzt, Result.andThen_ok, run_und hu, run_size hn, h1]
     rfl
   | _ => exact stuck_ok (A := A) h hr
end Go.Eng
