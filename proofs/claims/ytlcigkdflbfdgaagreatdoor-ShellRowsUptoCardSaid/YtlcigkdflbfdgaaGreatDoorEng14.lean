/-
 The engine, part 14: what a function of the program comes to over an abstract heap; each part is proved against the model.
-/
import Derived.Test.YtlcigkdflbfdgaaGreatDoorEng13
namespace Go.Eng
open Go
variable {P : Program} {φ : Phi} {A : AW} {ρ : Type} {r : Res ρ} {w : World}
theorem keyOk_same {kind : TypeDesc} {k u : Value} (h : keyOk kind k = true) (hv : VR φ k u) : u = k := by
 unfold keyOk at h
 split at h
 ·cases hv; rfl
 ·cases hv; rfl
 ·cases hv; rfl
 ·cases h
theorem keyOk_plain {kind : TypeDesc} {k : Value} (h : keyOk kind k = true) : plain1 k = true := by
 unfold keyOk at h
 split at h
 ·rfl
 ·rfl
 ·rfl
 ·cases h
theorem findA_sound {kind : TypeDesc} {k : Value} : ∀ {es fs : List MapEntry} {i : Nat} {o : Option (Nat × Value)}, findA kind k es i = some o → EsR φ es fs →
  ∃ o', Instr.findNow kind k fs i = some o' ∧ (match o, o' with
   | none, none => True
   | some (a, v), some (b, u) => a = b ∧ VR φ v u ∧ ∃ e, es[a - i]? = some e ∧ i ≤ a ∧ keyEq kind k e.key = some true
   | _, _ => False)
 | [], fs, i, o, h, he => by
  have : fs = [] := by
   have := he.1
   cases fs
   ·rfl
   ·simp at this
  subst this
  simp only [findA, Option.some.injEq] at h
  subst h
  exact ⟨none, rfl, trivial⟩
 | e :: es, fs, i, o, h, he => by
  cases fs with
  | nil => have := he.1; simp at this
  | cons f fs =>
   have h0 := he.2 0 e f rfl rfl
   have ht : EsR φ es fs := ⟨by simpa using he.1, fun j a b ha hb => he.2 (j + 1) a b (by simpa using ha) (by simpa using hb)⟩
   simp only [findA] at h
   simp only [Instr.findNow, ← h0.1]
   unfold keyEq at h
   cases hk : Instr.sameNow kind k e.key with
   | none => rw [hk] at h; cases h
   | some b =>
    rw [hk] at h
    cases b with
    | true =>
     simp only [Option.some.injEq] at h
     subst h
     exact ⟨_, rfl, rfl, h0.2.2.1, e, by simp, Nat.le_refl _, hk⟩
    | false =>
     obtain ⟨o', h1, h2⟩ := findA_sound h ht
     refine ⟨o', h1, ?_⟩
     cases o with
     | none =>
      cases o' with
      | none => trivial
      | some q => exact h2.elim
     | some p =>
      cases o' with
      | none => exact h2.elim
      | some q =>
       obtain ⟨g1, g2, e1, g3, g4, g5⟩ := h2
       refine ⟨g1, g2, e1, ?_, by omega, g5⟩
       rw [show p.1 - i = (p.1 - (i + 1)) + 1 by omega]
       simpa using g3
theorem checkKey_ok {kt : TypeId} {kind : TypeDesc} {k : Value} {n : Nat} (hu : P.underlying kt = some kind) (h : keyOk kind k = true) (b : Bool) : (Instr.checkKey b (n + 1) kt k).run P w = .ok () w := by
 unfold keyOk at h
 split at h <;> first | (cases h; done) | (simp only [Instr.checkKey, Sem.run_bind, run_und hu, Result.andThen_ok, Sem.run_pure])
theorem run_findKey {kt : TypeId} {kind : TypeDesc} {k : Value} {fs : List MapEntry} {o : Option (Nat × Value)} (hu : P.underlying kt = some kind) (h : Instr.findNow kind k fs 0 = some o) : (Instr.findKey kt k fs).run P w = .ok o w := by
 simp only [Instr.findKey, Sem.run_bind, run_und hu, Result.andThen_ok, h, Sem.run_pure]
theorem run_getMap {c : Nat} {fs : Array MapEntry} {clock : Nat} (h : w.heap[c]? = some (.map fs clock)) : (getObj c).run P w = .ok (.map fs clock) w := by simp [getObj, Sem.run, h]
theorem run_setMap {c : Nat} {fs : Array MapEntry} {clock : Nat} (h : w.heap[c]? = some (.map fs clock)) (o : Obj) :
  ∃ w', (setObj c o).run P w = .ok () w' ∧ Sz w w' ∧ (∀ d, d ≠ c → w'.heap[d]? = w.heap[d]?) ∧ w'.heap[c]? = some o := by
 have hlt := (Array.getElem?_eq_some_iff.1 h).1
 refine ⟨{ w with heap := w.heap.setIfInBounds c o }, by simp [setObj, Sem.run, h], ⟨by simp, rfl, rfl, rfl⟩, fun d hd => by simp [Ne.symm hd], by simp [hlt]⟩
theorem Sim.liveB (h : Sim P φ A w) {m c : Nat} (hr : BR φ m c) {o : AObj} (hb : A.get m = some o) : ∃ ex o', φ m = some (some (c, ex)) ∧ w.heap[c]? = some o' ∧ ObjR P φ ex o o' := by
 obtain ⟨x, hx, hx2⟩ := hr
 obtain ⟨d, ex, o', rfl, h2, h3⟩ := h.live hb hx
 obtain rfl := hx2 d ex rfl
 exact ⟨ex, o', hx, h2, h3⟩
theorem aLookup_sound {t : TypeId} {v key u ukey : Value} {ok : Bool} {K : Value → M ρ} (h : aLookup P t v key ok K A = r) (hr : r ≠ .stuck) (hs : Sim P φ A w) (hv : VR φ v u) (hk : VR φ key ukey) :
  ∃ v v', r = K v A ∧ (Instr.lookup t u ukey ok).run P w = .ok v' w ∧ VR φ v v' := by
 unfold aLookup at h
 cases hu : P.underlying t with
 | none => rw [hu] at h; exact stuck_ok (A := A) h hr
 | some d =>
  rw [hu] at h
  cases d with
  | map kt et =>
   simp only at h
   cases hkt : P.underlying kt with
   | none => rw [hkt] at h; exact stuck_ok (A := A) h hr
   | some kind =>
    cases hz : zeroT P et with
    | none => rw [hkt, hz] at h; exact stuck_ok (A := A) h hr
    | some z =>
     rw [hkt, hz] at h
     have main : ∀ (m : Option Nat) (um : Value), v = .map m → u = um → VR φ (.map m) um → ∃ v v', r = K v A ∧ (Instr.lookup t u ukey ok).run P w = .ok v' w ∧ VR φ v v' := by
      rintro m um rfl rfl hm
      simp only at h
      obtain ⟨hg, h⟩ := guard_ok h hr
      simp only [Bool.and_eq_true] at hg
      obtain ⟨hko, hpz⟩ := hg
      obtain rfl := keyOk_same hko hk
      unfold M.mapGet at h
      have fin : ∀ (o : Option Value) (o' : Option (Nat × Value)) (es : List MapEntry) (fs : Array MapEntry), EsR φ es fs.toList → (match o, o' with
        | none, none => True
        | some v, some (_, u) => VR φ v u
        | _, _ => False) → (match o with
        | some x => (shT P et).prj x |> fun y => M.need y fun y => K (cond ok (.tuple #[(shT P et).inj y, .bool true]) ((shT P et).inj y))
        | none => K (cond ok (.tuple #[z, .bool false]) z)) A = r →
        ∃ v v', r = K v A ∧ (do
         let (v, okv) ← (match o' with
          | some (_, v) => pure (v, true)
          | none => do pure (← zeroValue et, false) : Sem (Value × Bool))
         pure (if ok then .tuple #[v, .bool okv] else v) : Sem Value).run P w = .ok v' w ∧ VR φ v v' := by
       intro o o' es fs _ hoo h
       cases o with
       | none =>
        cases o' with
        | some q => exact hoo.elim
        | none =>
         have hrs : Rs φ [z, .bool false] [z, .bool false] := Rs.cons (plain_VR φ hpz) (Rs.cons (.bool _) Rs.nil)
         refine ⟨_, if ok then .tuple #[z, .bool false] else z, h.symm, by simp [run_zero hz], ?_⟩
         cases ok
         ·exact plain_VR φ hpz
         ·exact .tuple hrs.1 hrs.2
       | some x =>
        cases o' with
        | none => exact hoo.elim
        | some q =>
         obtain ⟨i, q⟩ := q
         simp only at h hoo
         obtain ⟨y, hy, h⟩ := need_ok h hr
         rw [Sh.inj_prj hy] at h
         have hrs : Rs φ [x, .bool true] [q, .bool true] := Rs.cons hoo (Rs.cons (.bool _) Rs.nil)
         refine ⟨_, if ok then .tuple #[q, .bool true] else q, h.symm, by simp, ?_⟩
         cases ok
         ·exact hoo
         ·exact .tuple hrs.1 hrs.2
      cases hm with
      | nilMap =>
       simp only [AW.entries, findA] at h
       obtain ⟨a, b, h1, h2, h3⟩ := fin none none [] #[] ⟨rfl, fun i e f he => by simp at he⟩ trivial h
       refine ⟨a, b, h1, ?_, h3⟩
       have hck := checkKey_ok (P := P) (w := w) (n := 9999) hkt hko true
       have hfk : (Instr.findKey kt ukey (#[] : Array MapEntry).toList).run P w = .ok none w := run_findKey hkt rfl
       simp only [Instr.lookup, Sem.run_bind, run_und hu, Result.andThen_ok, Sem.run_pure, Array.isEmpty_empty, hck, hfk]
       simpa using h2
      | @map m c hc =>
       simp only [AW.entries] at h
       cases hga : A.get m with
       | none => rw [hga] at h; exact absurd h.symm hr
       | some oa =>
        rw [hga] at h
        cases oa with
        | map es clock =>
         simp only at h
         obtain ⟨ex, o', hφ, hw, fs, rfl, hfs⟩ := hs.liveB hc hga
         cases hf : findA kind ukey es 0 with
         | none => rw [hf] at h; exact absurd h.symm hr
         | some o =>
          rw [hf] at h
          obtain ⟨o'', h1, h2⟩ := findA_sound hf hfs
          have hck := checkKey_ok (P := P) (w := w) (n := 9999) hkt hko fs.isEmpty
          have hfk := run_findKey (P := P) (w := w) hkt h1
          have h' : (match o.map Prod.snd with
           | some x => (shT P et).prj x |> fun y => M.need y fun y => K (cond ok (.tuple #[(shT P et).inj y, .bool true]) ((shT P et).inj y))
           | none => K (cond ok (.tuple #[z, .bool false]) z)) A = r := by
           cases o <;> exact h
          obtain ⟨a, b, g1, g2, g3⟩ := fin (o.map Prod.snd) o'' es fs hfs (by
           cases o <;> cases o'' <;> first | exact h2 | exact h2.2.1) h'
          refine ⟨a, b, g1, ?_, g3⟩
          simp only [Instr.lookup, Sem.run_bind, run_und hu, Result.andThen_ok, run_getMap hw, Sem.run_pure, hck, hfk]
          cases o'' <;> simpa [run_zero hz] using g2
        | _ => exact absurd h.symm hr
     cases hv with
     | nilMap => exact main none _ rfl rfl .nilMap
     | map hc => exact main (some _) _ rfl rfl (.map hc)
     | _ => exact stuck_ok (A := A) h hr
  | _ => exact stuck_ok (A := A) h hr
theorem setVal_length (key v : Value) : ∀ (es : List MapEntry) (i : Nat), (setVal es i key v).length = es.length
 | [], _ => by simp [setVal]
 | e :: es, 0 => by simp [setVal]
 | e :: es, i + 1 => by simp [setVal, setVal_length key v es i]
theorem setVal_get (key v : Value) : ∀ (es : List MapEntry) (i j : Nat), (setVal es i key v)[j]? = if j = i then (es[j]?).map fun e => { e with key, val := v } else es[j]?
 | [], i, j => by simp [setVal]
 | e :: es, 0, 0 => by simp [setVal]
 | e :: es, 0, j + 1 => by simp [setVal]
 | e :: es, i + 1, 0 => by simp [setVal]
 | e :: es, i + 1, j + 1 => by
  simp only [setVal, List.getElem?_cons_succ]
  rw [setVal_get key v es i j]
  by_cases h : j = i
  ·subst h; simp
  ·rw [if_neg h, if_neg (by omega)]
theorem sameBits_of {kind : TypeDesc} {k e : Value} (h : keyEq kind k e = some true) (n : Nat) : Instr.sameBits (n + 1) e k = true := by
 unfold keyEq Instr.sameNow at h
 split at h
 ·split at h
  ·rename_i hk
   subst hk
   simp only [Option.some.injEq, beq_iff_eq] at h
   subst h
   simp [Instr.sameBits]
  ·cases h
 ·simp only [Option.some.injEq] at h
  simp only [Instr.sameBits]
  rw [beq_toListBytes, bytes_eq, seq_iff] at h ⊢
  exact h.symm
 ·simp only [Option.some.injEq, beq_iff_eq] at h
  subst h
  simp [Instr.sameBits]
 ·cases h
theorem aMapUpdate_sound {t : TypeId} {v key x u ukey ux : Value} {K : M ρ} (h : aMapUpdate P t v key x K A = r) (hr : r ≠ .stuck) (hs : Sim P φ A w) (hv : VR φ v u) (hk : VR φ key ukey) (hx : VR φ x ux) :
  ∃ A' w', r = K A' ∧ (Instr.mapUpdate t u ukey ux).run P w = .ok () w' ∧ Sim P φ A' w' ∧ Onw φ A w φ A' w' := by
 unfold aMapUpdate at h
 cases hu : P.underlying t with
 | none => rw [hu] at h; exact stuck_ok (A := A) h hr
 | some d =>
  rw [hu] at h
  cases d with
  | map kt et =>
   simp only at h
   cases hkt : P.underlying kt with
   | none => rw [hkt] at h; exact stuck_ok (A := A) h hr
   | some kind =>
    rw [hkt] at h
    cases hv with
    | nilMap =>
     simp only at h
     obtain ⟨hg, h⟩ := guard_ok h hr
     exact absurd h.symm hr
    | @map m c hc =>
     simp only at h
     obtain ⟨hko, h⟩ := guard_ok h hr
     obtain rfl := keyOk_same hko hk
     unfold M.mapPut at h
     simp only at h
     cases hga : A.get m with
     | none => rw [hga] at h; exact absurd h.symm hr
     | some oa =>
      rw [hga] at h
      cases oa with
      | map es clock =>
       simp only at h
       obtain ⟨ex, o', hφ, hw, fs, rfl, hfs⟩ := hs.liveB hc hga
       have hck := checkKey_ok (P := P) (w := w) (n := 9999) hkt hko false
       cases hf : findA kind ukey es 0 with
       | none => rw [hf] at h; exact absurd h.symm hr
       | some o =>
        rw [hf] at h
        obtain ⟨o'', h1, h2⟩ := findA_sound hf hfs
        have hfk := run_findKey (P := P) (w := w) hkt h1
        cases o with
        | none =>
         cases o'' with
         | some q => exact h2.elim
         | none =>
          simp only at h
          obtain ⟨w', m1, m2, m3, m4⟩ := run_setMap (P := P) hw (.map (fs.push { key := ukey, val := ux, born := clock }) (clock + 1))
          obtain ⟨t1, t2⟩ := hs.put (o := .map (es ++ [{ key := ukey, val := x, born := clock }]) (clock + 1)) hφ m2 m3 m4 ⟨_, rfl, by simp [hfs.1], fun i e f he hf => by
           rw [Array.toList_push] at hf
           rw [List.getElem?_append] at he hf
           rw [← hfs.1] at hf
           split at he
           ·rename_i hi; rw [if_pos hi] at hf; exact hfs.2 i e f he hf
           ·rename_i hi
            rw [if_neg hi] at hf
            have hi0 : i - es.length = 0 := by
             have := (List.getElem?_eq_some_iff.1 he).1
             simp at this; omega
            rw [hi0] at he hf
            simp only [List.getElem?_cons_zero, Option.some.injEq] at he hf
            subst he; subst hf
            exact ⟨rfl, keyOk_plain hko, hx, rfl⟩⟩
          refine ⟨_, w', h.symm, ?_, t1, t2⟩
          simp only [Instr.mapUpdate, Sem.run_bind, run_und hu, Result.andThen_ok, run_getMap hw, hck, hfk, m1]
        | some p =>
         cases o'' with
         | none => exact h2.elim
         | some q =>
          obtain ⟨i, pv⟩ := p
          obtain ⟨j, qv⟩ := q
          obtain ⟨rfl, _, e0, he0, _, hke⟩ := h2
          simp only [Nat.sub_zero] at he0
          simp only at h
          have hjl : i < fs.size := by
           have := (List.getElem?_eq_some_iff.1 he0).1
           have := hfs.1
           simp at this; omega
          have hfi : fs[i]? = some fs[i] := by simp [hjl]
          have hfk0 := hfs.2 i e0 fs[i] he0 (by simp [hjl])
          have hkts : (Instr.keyThatStays (((fs[i]?).map (·.key)).getD ukey) ukey).run P w = .ok ukey w := by
           simp only [hfi, Option.map_some, Option.getD_some, ← hfk0.1, Instr.keyThatStays, sameBits_of hke 9999, if_true, Sem.run_pure]
          obtain ⟨w', m1, m2, m3, m4⟩ := run_setMap (P := P) hw (.map (fs.modify i fun e => { e with key := ukey, val := ux }) clock)
          obtain ⟨t1, t2⟩ := hs.put (o := .map (setVal es i ukey x) clock) hφ m2 m3 m4 ⟨_, rfl, by simp [setVal_length, hfs.1], fun j e f he hf => by
           rw [setVal_get] at he
           simp only [Array.toList_modify, List.getElem?_modify] at hf
           by_cases hj : j = i
           ·subst hj
            rw [if_pos rfl] at he
            simp only [if_true, Option.map_eq_map] at hf
            obtain ⟨e1, he1, rfl⟩ := Option.map_eq_some_iff.1 he
            obtain ⟨f1, hf1, rfl⟩ := Option.map_eq_some_iff.1 hf
            have := hfs.2 j e1 f1 he1 hf1
            exact ⟨rfl, keyOk_plain hko, hx, this.2.2.2⟩
           ·rw [if_neg hj] at he
            have hj' : ¬ i = j := fun e => hj e.symm
            simp only [hj', if_false, Option.map_eq_map, Option.map_id'] at hf
            exact hfs.2 j e f he hf⟩
          refine ⟨_, w', h.symm, ?_, t1, t2⟩
          simp only [Instr.mapUpdate, Sem.run_bind, run_und hu, Result.andThen_ok, run_getMap hw, hck, hfk, hkts, m1]
      | _ => exact absurd h.symm hr
    | _ => exact stuck_ok (A := A) h hr
  | _ => exact stuck_ok (A := A) h hr
theorem mapDel_sound {t kt et ty : TypeId} {kind : TypeDesc} {m : Option Nat} {key u ukey : Value} {argTypes : Array TypeId} {K : Value → M ρ} (h : (M.guard (keyOk kind key) (M.mapDel kind m key (K (.tuple #[])))) A = r) (hr : r ≠ .stuck) (hs : Sim P φ A w)
  (h0 : argTypes[0]? = some t) (hu : P.underlying t = some (.map kt et)) (hkt : P.underlying kt = some kind) (hv : VR φ (.map m) u) (hk : VR φ key ukey) :
  DoesV P φ A w r K (Builtin.delete_ argTypes ty #[u, ukey]) := by
 obtain ⟨hko, h⟩ := guard_ok h hr
 obtain rfl := keyOk_same hko hk
 have b0 : ∀ u : Value, (#[u, ukey] : Array Value)[0]? = some u := fun _ => rfl
 have b1 : ∀ u : Value, (#[u, ukey] : Array Value)[1]? = some ukey := fun _ => rfl
 have htup : ∀ φ, VR φ (.tuple #[]) (.tuple #[]) := fun φ => .tuple rfl (fun i x y hx => by simp at hx)
 unfold M.mapDel at h
 cases hv with
 | nilMap =>
  refine ⟨_, A, φ, w, .tuple #[], h.symm, ?_, hs, htup φ, Onw.refl _ _ _⟩
  simp only [Builtin.delete_, h0, b0, b1, Sem.run_bind, run_und hu, Result.andThen_ok, checkKey_ok (P := P) (w := w) (n := 9999) hkt hko, Sem.run_pure]
 | @map m c hc =>
  simp only at h
  cases hga : A.get m with
  | none => rw [hga] at h; exact absurd h.symm hr
  | some oa =>
   rw [hga] at h
   cases oa with
   | map es clock =>
    simp only at h
    obtain ⟨ex, o', hφ, hw, fs, rfl, hfs⟩ := hs.liveB hc hga
    have hck := fun b => checkKey_ok (P := P) (w := w) (n := 9999) hkt hko b
    cases hf : findA kind ukey es 0 with
    | none => rw [hf] at h; exact absurd h.symm hr
    | some o =>
     rw [hf] at h
     obtain ⟨o'', h1, h2⟩ := findA_sound hf hfs
     have hfk := run_findKey (P := P) (w := w) hkt h1
     cases o with
     | none =>
      cases o'' with
      | some q => exact h2.elim
      | none =>
       simp only at h
       obtain ⟨w', m1, m2, m3, m4⟩ := run_setMap (P := P) hw (.map fs clock)
       obtain ⟨t1, t2⟩ := hs.keep hφ hga m2 m3 m4 ⟨fs, rfl, hfs⟩
       refine ⟨_, A, φ, w', .tuple #[], h.symm, ?_, t1, htup φ, t2⟩
       simp only [Builtin.delete_, h0, b0, b1, Sem.run_bind, run_und hu, Result.andThen_ok, run_getMap hw, hck, hfk, m1, Sem.run_pure]
     | some p =>
      cases o'' with
      | none => exact h2.elim
      | some q =>
       obtain ⟨i, pv⟩ := p
       obtain ⟨j, qv⟩ := q
       obtain ⟨rfl, _, e0, he0, _, hke⟩ := h2
       simp only [Nat.sub_zero] at he0
       simp only at h
       have hjl : i < fs.size := by
        have := (List.getElem?_eq_some_iff.1 he0).1
        have := hfs.1
        simp at this; omega
       have hle : i < es.length := (List.getElem?_eq_some_iff.1 he0).1
       have het : (fs.eraseIdxIfInBounds i).toList = fs.toList.eraseIdx i := by simp
       obtain ⟨w', m1, m2, m3, m4⟩ := run_setMap (P := P) hw (.map (fs.eraseIdxIfInBounds i) clock)
       obtain ⟨t1, t2⟩ := hs.put (o := .map (es.eraseIdx i) clock) hφ m2 m3 m4 ⟨_, rfl, by
         rw [het, List.length_eraseIdx, List.length_eraseIdx, hfs.1], fun j e f he hf => by
        rw [het] at hf
        rw [List.getElem?_eraseIdx] at he hf
        split at he
        ·rename_i hj; rw [if_pos hj] at hf; exact hfs.2 j e f he hf
        ·rename_i hj; rw [if_neg hj] at hf; exact hfs.2 (j + 1) e f he hf⟩
       refine ⟨_, _, φ, w', .tuple #[], h.symm, ?_, t1, htup φ, t2⟩
       simp only [Builtin.delete_, h0, b0, b1, Sem.run_bind, run_und hu, Result.andThen_ok, run_getMap hw, hck, hfk, m1, Sem.run_pure]
   | _ => exact absurd h.symm hr
theorem aRange_sound {t : TypeId} {v u : Value} {K : Value → M ρ} (h : aRange P t v K A = r) (hr : r ≠ .stuck) (hs : Sim P φ A w) (hv : VR φ v u) : DoesV P φ A w r K (Instr.range t u) := by
 unfold aRange at h
 cases hu : P.underlying t with
 | none => rw [hu] at h; exact stuck_ok (A := A) h hr
 | some d =>
  rw [hu] at h
  cases d with
  | string =>
   cases hv with
   | string s =>
    simp only at h
    obtain ⟨s1, s2⟩ := hs.alloc (o := .iter s 0) (o' := .stringIter s 0) (ex := 0) (w' := { w with heap := w.heap.push (.stringIter s 0) }) rfl rfl
    refine ⟨_, _, _, _, .pointer (some ⟨w.heap.size, 0, none⟩), h.symm, ?_, s1, .ptr (AR.new (setPhi_same _ _ _)), s2⟩
    simp only [Instr.range, Sem.run_bind, run_und hu, Result.andThen_ok, Sem.run_pure, newObj, Sem.run]
   | _ => exact stuck_ok (A := A) h hr
  | _ => exact stuck_ok (A := A) h hr
theorem aNext_sound {v u : Value} {b : Bool} {ty : TypeId} {K : Value → M ρ} (h : aNext v b K A = r) (hr : r ≠ .stuck) (hs : Sim P φ A w) (hv : VR φ v u) : DoesV P φ A w r K (Instr.next u b ty) := by
 unfold aNext at h
 obtain ⟨hb1, h9⟩ := condM_ok h hr
 clear h
 subst hb1
 have h := h9
 clear h9
 cases hv with
 | nilPtr => exact stuck_ok (A := A) h hr
 | @ptr a c hac =>
  simp only [M.deref] at h
  obtain ⟨ho, h⟩ := guard_ok h hr
  have ho := Nat.eq_of_beq_eq_true ho
  unfold M.next at h
  cases hg : A.get a.block with
  | none => rw [hg] at h; exact absurd h.symm hr
  | some oa =>
   rw [hg] at h
   cases oa with
   | iter s pos =>
    simp only at h
    obtain ⟨ex, o', hφ, hoc, hsp, hw, rfl⟩ := hs.liveA hac hg
    have hc : c = ⟨c.block, 0, c.spot⟩ := by
     obtain ⟨b, o, sp⟩ := c
     simp only at hoc
     rw [ho] at hoc
     rw [← hoc]
    have hgo : (getObj c.block).run P w = .ok (.stringIter s pos) w := by simp [getObj, Sem.run, hw]
    rw [hc]
    cases hb : Nat.blt pos s.size with
    | true =>
     rw [hb] at h
     have hlt : pos < s.size := by simpa using hb
     simp only [cond_true] at h
     have hslt := (Array.getElem?_eq_some_iff.1 hw).1
     obtain ⟨s1, s2⟩ := hs.put (o := .iter s (pos + (Utf8.decode s pos).2)) (w' := { w with heap := w.heap.setIfInBounds c.block (.stringIter s (pos + (Utf8.decode s pos).2)) }) hφ ⟨by simp, rfl, rfl, rfl⟩
      (fun d hd => by simp [Ne.symm hd]) (by simp [hslt]) rfl
     have hrs : Rs φ [Value.bool true, .int .i64 (pos : Int), .int .i32 (Utf8.decode s pos).1] [Value.bool true, .int .i64 (pos : Int), .int .i32 (Utf8.decode s pos).1] :=
      Rs.cons (.bool _) (Rs.cons (.int _ _) (Rs.cons (.int _ _) Rs.nil))
     refine ⟨_, _, φ, _, .tuple #[.bool true, goInt pos, .int .i32 (Utf8.decode s pos).1], h.symm, ?_, s1, .tuple hrs.1 hrs.2, s2⟩
     simp only [Instr.next, Sem.run_bind, hgo, Result.andThen_ok, if_pos hlt, setObj, Sem.run, hw, Sem.run_pure]
    | false =>
     rw [hb] at h
     have hlt : ¬ pos < s.size := fun hl => by
      have h9 : Nat.blt pos s.size = true := by simpa using hl
      rw [hb] at h9
      cases h9
     simp only [cond_false] at h
     have hrs : Rs φ [Value.bool false] [Value.bool false] := Rs.cons (.bool _) Rs.nil
     refine ⟨_, A, φ, w, .tuple #[.bool false], h.symm, ?_, hs, .tuple hrs.1 hrs.2, Onw.refl _ _ _⟩
     simp only [Instr.next, Sem.run_bind, hgo, Result.andThen_ok, if_neg hlt, Sem.run_pure]
   | _ => exact absurd h.symm hr
 | _ => exact stuck_ok (A := A) h hr
end Go.Eng
