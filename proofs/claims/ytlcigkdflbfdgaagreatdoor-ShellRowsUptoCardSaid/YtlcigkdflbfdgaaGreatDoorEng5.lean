/-
 The engine, part 5: what a function of the program comes to over an abstract heap; each part is proved against the model.
-/
import Derived.Test.YtlcigkdflbfdgaaGreatDoorEng4
namespace Go.Eng
open Go
theorem cond_some {b : Bool} {α : Type} {x : Option α} {y : α} (h : cond b x none = some y) : b = true ∧ x = some y := by
 cases b
 ·cases h
 ·exact ⟨rfl, h⟩
theorem ble_iff {a b : Nat} : Nat.ble a b = true ↔ a ≤ b := by rw [Nat.ble_eq]
theorem isNone_spot {a : Addr} (h : a.spot.isNone = true) : a = ⟨a.block, a.off, none⟩ := by
 obtain ⟨b, o, s⟩ := a
 cases s
 ·rfl
 ·simp at h
theorem add_eq {a : Addr} (h : a.spot = none) (n : Nat) : a.add n = ⟨a.block, a.off + n, none⟩ := by
 obtain ⟨b, o, s⟩ := a
 simp only at h
 subst h
 unfold Addr.add
 split
 ·rename_i e; subst e; rfl
 ·rfl
theorem AR.add {φ : Phi} {a c : Addr} (h : AR φ a c) (n : Nat) : AR φ (a.add n) (c.add n) := by
 obtain ⟨x, hx, h3⟩ := h
 unfold Addr.add
 split
 ·exact ⟨x, hx, h3⟩
 ·exact ⟨x, hx, fun d e he => let ⟨p, _, q⟩ := h3 d e he; ⟨by simp [p], rfl, q⟩⟩
theorem SR.ar {φ : Phi} {a c : Addr} {n cap cap' : Nat} (h : SR φ a n cap c cap') (hn : 0 < n ∨ 0 < cap) : AR φ a c := by
 obtain ⟨hle, x, hx, hx2⟩ := h
 refine ⟨x, hx, fun d e he => ?_⟩
 rcases (hx2 d e he).2 with ⟨h1, h2⟩ | h2
 ·omega
 ·exact h2
variable {P : Program} {φ : Phi} {A : AW} {w : World}
theorem Sim.live (h : Sim P φ A w) {b : Nat} {o : AObj} (hb : A.get b = some o) {x : Option (Nat × Nat)} (hx : φ b = some x) :
  ∃ c ex o', x = some (c, ex) ∧ w.heap[c]? = some o' ∧ ObjR P φ ex o o' := by
 cases x with
 | none => rw [h.dead b hx] at hb; cases hb
 | some p =>
  obtain ⟨c, ex⟩ := p
  obtain ⟨o1, o', h1, h2, h3⟩ := h.obj b c ex hx
  rw [hb] at h1
  obtain rfl := Option.some.inj h1
  exact ⟨c, ex, o', rfl, h2, h3⟩
theorem Sim.liveA (h : Sim P φ A w) {a c : Addr} (hr : AR φ a c) {o : AObj} (hb : A.get a.block = some o) :
  ∃ ex o', φ a.block = some (some (c.block, ex)) ∧ a.off = c.off ∧ a.spot = c.spot ∧ w.heap[c.block]? = some o' ∧ ObjR P φ ex o o' := by
 obtain ⟨x, hx, hxc⟩ := hr
 obtain ⟨d, ex, o', rfl, h2, h3⟩ := h.live hb hx
 obtain ⟨k1, k2, k3⟩ := hxc d ex rfl
 subst k3
 exact ⟨ex, o', hx, k1, k2, h2, h3⟩
theorem cellsAt_some {a : Addr} {n : Nat} {vs : List Value} (h : A.cellsAt a n = some vs) :
  ∃ cs e g fz ish, A.get a.block = some (.cells cs e g fz ish) ∧ a.spot = none ∧ a.off + n ≤ cs.list.length ∧ vs = (cs.list.drop a.off).take n := by
 unfold AW.cellsAt at h
 split at h
 ·rename_i cs e g fz ish hg
  obtain ⟨h1, h2⟩ := cond_some h
  rw [Row.read_eq] at h2
  by_cases hle : a.off + n ≤ cs.list.length
  ·rw [if_pos hle] at h2
   exact ⟨cs, e, g, fz, ish, hg, Option.isNone_iff_eq_none.1 h1, hle, (Option.some.inj h2).symm⟩
  ·rw [if_neg hle] at h2; cases h2
 ·cases h
theorem take_drop_get {α : Type} {l : List α} {o n j : Nat} {v : α} (h : ((l.drop o).take n)[j]? = some v) : l[o + j]? = some v ∧ j < n := by
 rw [List.getElem?_take] at h
 split at h
 ·rename_i hj; rw [List.getElem?_drop] at h; exact ⟨h, hj⟩
 ·cases h
theorem Sim.loads (h : Sim P φ A w) {a c : Addr} (hr : AR φ a c) {n : Nat} {vs : List Value} (hv : A.cellsAt a n = some vs) :
  ∃ us : List Value, (loadCells c n).run P w = .ok us.toArray w ∧ Rs φ vs us ∧ us.length = n ∧ ∀ i u, us[i]? = some u → w.cell? (c.add i) = some u := by
 obtain ⟨cs, e, g, fz, ish, hg, hsp, hlen, rfl⟩ := cellsAt_some hv
 obtain ⟨ex, o', _, ho, hs, hc, arr, fz', rfl, hsz, hrs, _⟩ := h.liveA hr hg
 have hspc : c.spot = none := by rw [← hs]; exact hsp
 have hall : ∀ i u, ((arr.toList.drop c.off).take n)[i]? = some u → w.cell? (c.add i) = some u := by
  intro i u hu
  obtain ⟨h1, _⟩ := take_drop_get hu
  rw [add_eq hspc]
  unfold World.cell?
  simp only [hc]
  simpa using h1
 have hl : ((arr.toList.drop c.off).take n).length = n := by
  have := hrs.1
  simp at this ⊢
  omega
 refine ⟨(arr.toList.drop c.off).take n, ?_, ?_, hl, hall⟩
 ·have := run_loadCells_list (P := P) w c ((arr.toList.drop c.off).take n) hall
  rwa [hl] at this
 ·have h2 := (hrs.drop a.off).take n
  rw [ho] at h2 ⊢
  have e1 : (((arr.toList.take cs.list.length).drop c.off).take n) = ((arr.toList.drop c.off).take n) := by
   apply List.ext_getElem?
   intro i
   rw [List.getElem?_take, List.getElem?_take]
   split
   ·rename_i hi
    rw [List.getElem?_drop, List.getElem?_drop, List.getElem?_take, if_pos (by omega)]
   ·rfl
  rw [e1] at h2
  exact h2
theorem take_set_succ {l : List Value} {n : Nat} {v : Value} (h : n < l.length) : (l.set n v).take (n + 1) = l.take n ++ [v] := by
 rw [List.take_succ_eq_append_getElem (by simpa using h)]
 simp [List.take_set_of_le]
theorem run_stores (g o : Nat) (t : TypeId) (fz : Nat × Nat) : ∀ (vs : List Value) (i : Nat) (cur : Array Value) (w : World), w.heap[g]? = some (.cells cur t fz) →
  (∀ j, j < vs.length → ¬(fz.1 ≤ o + i + j ∧ o + i + j < fz.2)) → o + i + vs.length ≤ cur.size → (∀ v ∈ vs, v.oneCell' = true) →
  ∃ w', (storeCells ⟨g, o, none⟩ vs i).run P w = .ok () w' ∧ Sz w w' ∧ (∀ d, d ≠ g → w'.heap[d]? = w.heap[d]?) ∧ w'.heap[g]? = some (.cells (setAt cur.toList (o + i) vs).toArray t fz)
 | [], i, cur, w, hg, _, _, _ => ⟨w, rfl, ⟨rfl, SameOut.refl _⟩, fun _ _ => rfl, by
   have : setAt cur.toList (o + i) [] = cur.toList := by cases cur.toList <;> cases (o + i) <;> rfl
   rw [this]; simpa using hg⟩
 | v :: rest, i, cur, w, hg, hfz, hl, h1 => by
  have hi : o + i < cur.size := by simp at hl; omega
  have hglt : g < w.heap.size := (Array.getElem?_eq_some_iff.1 hg).1
  have hadd : (⟨g, o, none⟩ : Addr).add i = ⟨g, o + i, none⟩ := by unfold Addr.add; split <;> simp_all
  have hcell : w.cell? ⟨g, o + i, none⟩ = some cur[o + i] := by simp [World.cell?, hg, hi]
  have hfro : w.frozen? ⟨g, o + i, none⟩ = false := by
   have := hfz 0 (by simp)
   obtain ⟨lo, hi'⟩ := fz
   simp only [World.frozen?, hg, Bool.and_eq_false_iff, decide_eq_false_iff_not]
   simp only [Nat.add_zero] at this
   omega
  obtain ⟨w1, hw1⟩ : ∃ w1, w1 = w.setCell ⟨g, o + i, none⟩ v := ⟨_, rfl⟩
  have hst : (store ((⟨g, o, none⟩ : Addr).add i) v).run P w = .ok () w1 := by
   rw [hadd, run_store P w _ v _ (h1 v (by simp)), hcell]
   simp [hfro, hw1]
  have hg1 : w1.heap[g]? = some (.cells (cur.setIfInBounds (o + i) v) t fz) := by
   rw [hw1]
   unfold World.setCell
   simp [Array.getElem?_modify, hg]
  have hs1 : w1.heap.size = w.heap.size := by rw [hw1]; simp
  have hd1 : ∀ d, d ≠ g → w1.heap[d]? = w.heap[d]? := fun d hd => by
   rw [hw1]
   unfold World.setCell
   simp [Array.getElem?_modify, Ne.symm hd]
  obtain ⟨w', k1, k2, k3, k4⟩ := run_stores g o t fz rest (i + 1) (cur.setIfInBounds (o + i) v) w1 hg1 (fun j hj => by have := hfz (j + 1) (by simp; omega); rwa [show o + i + (j + 1) = o + (i + 1) + j by omega] at this) (by simp at hl ⊢; omega) (fun x hx => h1 x (by simp [hx]))
  refine ⟨w', ?_, ⟨by have := k2.1; omega, SameOut.trans (by rw [hw1]; exact ⟨rfl, rfl, rfl⟩) k2.2⟩, fun d hd => (k3 d hd).trans (hd1 d hd), ?_⟩
  ·simp only [storeCells, Sem.run_bind, hst, Result.andThen_ok, k1]
  ·rw [k4]
   congr 3
   rw [Array.toList_setIfInBounds, setAt_eq _ _ _ (by simp at hl ⊢; omega), setAt_eq _ _ _ (by simp at hl ⊢; omega)]
   rw [show o + (i + 1) = o + i + 1 by omega, show o + i + (v :: rest).length = o + i + 1 + rest.length by simp; omega]
   rw [List.drop_set_of_lt (by omega), take_set_succ (by simpa using hi)]
   simp
end Go.Eng
namespace Go.Eng
open Go
theorem setAt_get : ∀ (cs : List Value) (n : Nat) (vs : List Value) (i : Nat), n + vs.length ≤ cs.length → (setAt cs n vs)[i]? = if n ≤ i ∧ i < n + vs.length then vs[i - n]? else cs[i]?
 | cs, n, [], i, _ => by
  have : setAt cs n [] = cs := by cases cs <;> cases n <;> rfl
  rw [this, if_neg (by simp only [List.length_nil]; omega)]
 | [], _, _ :: _, _, h => by simp at h
 | c :: cs, 0, v :: vs, 0, _ => by simp [setAt]
 | c :: cs, 0, v :: vs, i + 1, h => by
  simp only [setAt, List.getElem?_cons_succ]
  rw [setAt_get cs 0 vs i (by simp at h; omega)]
  by_cases hi : i < vs.length
  ·rw [if_pos (by omega), if_pos (by simp; omega)]; simp
  ·rw [if_neg (by omega), if_neg (by simp; omega)]
 | c :: cs, n + 1, v :: vs, 0, h => by simp [setAt]
 | c :: cs, n + 1, v :: vs, i + 1, h => by
  simp only [setAt, List.getElem?_cons_succ]
  rw [setAt_get cs n (v :: vs) i (by simp at h ⊢; omega)]
  by_cases hi : n ≤ i ∧ i < n + (v :: vs).length
  ·rw [if_pos hi, if_pos (by omega), Nat.add_sub_add_right]
  ·rw [if_neg hi, if_neg (by omega)]
theorem Rs.setAt {φ : Phi} {l m vs us : List Value} {n : Nat} (h : Rs φ l m) (k : Rs φ vs us) (hn : n + vs.length ≤ l.length) : Rs φ (setAt l n vs) (setAt m n us) := by
 refine ⟨by rw [setAt_length _ _ _ hn, setAt_length _ _ _ (by rw [← h.1, ← k.1]; exact hn), h.1], fun i x y hx hy => ?_⟩
 rw [setAt_get _ _ _ _ hn] at hx
 rw [setAt_get _ _ _ _ (by rw [← h.1, ← k.1]; exact hn)] at hy
 rw [← k.1] at hy
 split at hx
 ·rename_i hi; rw [if_pos hi] at hy; exact k.2 _ x y hx hy
 ·rename_i hi; rw [if_neg hi] at hy; exact h.2 i x y hx hy
theorem take_setAt {l us : List Value} {n o : Nat} (h : o + us.length ≤ n) (hl : n ≤ l.length) : (Eng.setAt l o us).take n = Eng.setAt (l.take n) o us := by
 apply List.ext_getElem?
 intro i
 rw [List.getElem?_take, setAt_get _ _ _ _ (by omega), setAt_get _ _ _ _ (by simp; omega), List.getElem?_take]
 by_cases hi : i < n
 ·simp [hi]
 ·have : ¬(o ≤ i ∧ i < o + us.length) := by omega
  simp [hi, this]
theorem VR.one {φ : Phi} {v u : Value} (h : VR φ v u) (hv : v.oneCell' = true) : u.oneCell' = true := by cases h <;> first | exact hv | cases hv
theorem Rs.one {φ : Phi} {l m : List Value} (h : Rs φ l m) (k : l.all Value.oneCell' = true) : ∀ u ∈ m, u.oneCell' = true := by
 intro u hu
 obtain ⟨i, hi, rfl⟩ := List.getElem_of_mem hu
 have hl : i < l.length := by rw [h.1]; exact hi
 have := h.2 i l[i] m[i] (List.getElem?_eq_getElem hl) (List.getElem?_eq_getElem hi)
 exact this.one (List.all_eq_true.1 k _ (List.getElem_mem hl))
theorem store_some {A A' : AW} {a : Addr} {vs : List Value} (h : A.store a vs = some A') :
  ∃ cs cs' e g fz ish, A.get a.block = some (.cells cs e g fz ish) ∧ a.spot = none ∧ a.off + vs.length ≤ cs.list.length ∧ (fz.2 ≤ a.off ∨ a.off + vs.length ≤ fz.1) ∧ vs.all Value.oneCell' = true ∧
   cs'.list = setAt cs.list a.off vs ∧ A' = A.put a.block (.cells cs' e g fz ish) := by
 unfold AW.store at h
 split at h
 ·rename_i cs e g fz ish hg
  obtain ⟨h1, h2⟩ := cond_some h
  simp only [Bool.and_eq_true, Bool.or_eq_true, ble_iff, Option.isNone_iff_eq_none] at h1
  cases hw : cs.write a.off vs with
  | none => rw [hw] at h2; cases h2
  | some cs' =>
   rw [hw] at h2
   obtain ⟨hl, he⟩ := Row.write_list hw
   exact ⟨cs, cs', e, g, fz, ish, hg, h1.1.1, hl, h1.1.2, h1.2, he, (Option.some.inj h2).symm⟩
 ·cases h
variable {P : Program} {φ : Phi} {A : AW} {w : World}
theorem Sim.stores (h : Sim P φ A w) {a c : Addr} (hr : AR φ a c) {vs us : List Value} {A' : AW} (hs : A.store a vs = some A') (hu : Rs φ vs us) :
  ∃ w', (storeCells c us).run P w = .ok () w' ∧ Sim P φ A' w' ∧ Onw φ A w φ A' w' := by
 obtain ⟨cs, cs1, e, g, fz, ish, hg, hsp, hlen, hfz, hone, hcs1, rfl⟩ := store_some hs
 obtain ⟨ex, o', hφ, ho, hs, hc, arr, fz', rfl, hsz, hrs, hgx, hf1, hf2, hf3⟩ := h.liveA hr hg
 have hc' : c = ⟨c.block, c.off, none⟩ := isNone_spot (by rw [← hs, hsp]; rfl)
 have hal : cs.list.length ≤ arr.size := by have := hrs.1; simp at this; omega
 obtain ⟨w', k1, k2, k3, k4⟩ := run_stores (P := P) c.block c.off e fz' us 0 arr w hc (fun j hj => by
   rw [Nat.add_zero]
   by_cases hne : fz.1 = fz.2
   ·exact hf2 hne (c.off + j) (by rw [← hu.1] at hj; omega)
   ·have := hf1 hne
    rw [← hu.1] at hj
    omega) (by rw [← hu.1]; omega) (hu.one hone)
 have k1' : (storeCells c us).run P w = .ok () w' := by rw [hc']; exact k1
 obtain ⟨s1, s2⟩ := h.put (o := .cells cs1 e g fz ish) hφ k2 k3 k4 ⟨_, fz', rfl, by
   simp only [Nat.add_zero, List.size_toArray]
   rw [setAt_length _ _ _ (by rw [← hu.1]; simp only [Array.length_toList]; omega), hcs1, setAt_length _ _ _ hlen]
   simpa only [Array.length_toList] using hsz, by
   rw [hcs1, setAt_length _ _ _ hlen]
   simp only [Nat.add_zero]
   rw [take_setAt (by rw [← hu.1]; omega) (by simpa using hal), ← ho]
   exact hrs.setAt hu hlen, hgx, hf1, by
   simp only [Nat.add_zero, List.size_toArray]
   rw [setAt_length _ _ _ (by rw [← hu.1]; simp; omega)]
   simpa using hf2, hf3⟩
 exact ⟨w', k1', s1, s2⟩
end Go.Eng
