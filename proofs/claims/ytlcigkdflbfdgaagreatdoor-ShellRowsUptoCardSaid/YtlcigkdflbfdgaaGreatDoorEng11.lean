/-
 The engine, part 11: what a function of the program comes to over an abstract heap; each part is proved against the model.
-/
import Derived.Test.YtlcigkdflbfdgaaGreatDoorEng10
namespace Go.Eng
open Go
variable {P : Program} {φ : Phi} {A : AW} {ρ : Type} {r : Res ρ} {w : World}
theorem loadCells_zero (c : Addr) : (loadCells c 0).run P w = .ok #[] w := rfl
theorem extract_data (s : ByteArray) (n : Nat) : (s.extract 0 n).data.toList = s.data.toList.take n := by
 simp [ByteArray.data_extract, List.extract_eq_take_drop]
theorem strCells_Rs (φ : Phi) (l : List UInt8) : Rs φ (l.map fun b => Value.int .u8 b.toNat) (l.map fun b => Value.int .u8 b.toNat) :=
 ⟨rfl, fun i x y hx hy => by
  rw [hx] at hy
  obtain rfl := Option.some.inj hy
  rw [List.getElem?_map] at hx
  cases hl : l[i]? with
  | none => rw [hl] at hx; cases hx
  | some b => rw [hl] at hx; obtain rfl := Option.some.inj hx; exact .int _ _⟩
theorem loadCells_heap {w w' : World} (h : w'.heap = w.heap) (c : Addr) : w'.cell? c = w.cell? c := by unfold World.cell?; rw [h]
theorem elems_zero {A : AW} {esz : Nat} {x : Value} {vs : List Value} (h : A.elems esz 0 x = some vs) : vs = [] := by
 unfold AW.elems at h
 split at h
 ·rw [Nat.zero_mul] at h
  exact peek_zero h
 ·exact (Option.some.inj h).symm
 ·simpa using (Option.some.inj h).symm
 ·cases h
theorem elems_sound (hs : Sim P φ A w) {esz n m : Nat} {x u : Value} {vs : List Value} (hx : VR φ x u) (h : A.elems esz n x = some vs) (hm : lenV x = some m) (hnm : n ≤ m) :
  ∃ us : List Value, (∀ w' : World, w'.heap = w.heap → (Builtin.firstCells esz n u).run P w' = .ok us.toArray w') ∧ Rs φ vs us := by
 cases hx with
 | slice k hsr =>
  rename_i a c cap cap'
  simp only [lenV, Option.some.injEq] at hm
  subst hm
  simp only [AW.elems] at h
  by_cases hk : 0 < k ∨ 0 < cap
  ·obtain ⟨us, h1, h2, h3, h4⟩ := hs.peeks (hsr.ar hk) h
   refine ⟨us, fun w' hw' => ?_, h2⟩
   have := run_loadCells_list (P := P) w' c us (fun j v hj => by rw [loadCells_heap hw']; exact h4 j v hj)
   rw [h3] at this
   exact this
  ·have : n = 0 := by omega
   subst this
   rw [Nat.zero_mul] at h
   obtain rfl := peek_zero h
   exact ⟨[], fun w' _ => by simp [Builtin.firstCells, loadCells_zero], Rs.nil⟩
 | nilSlice _ =>
  simp only [AW.elems, Option.some.injEq] at h
  subst h
  exact ⟨[], fun _ _ => rfl, Rs.nil⟩
 | string s =>
  simp only [AW.elems, Option.some.injEq] at h
  subst h
  refine ⟨_, fun w' _ => ?_, strCells_Rs φ _⟩
  simp only [Builtin.firstCells, Sem.run_pure]
  congr 1
  apply Array.ext'
  rw [Array.toList_map, extract_data]
 | _ => simp [lenV] at hm
theorem lenOf_run {φ : Phi} {x u : Value} {m : Nat} (hx : VR φ x u) (hm : lenV x = some m) : Builtin.lenOf u = pure m := by
 cases hx <;> simp only [lenV, Option.some.injEq, reduceCtorEq] at hm <;> subst hm <;> rfl
theorem Sim.storesAt (hs : Sim P φ A w) {a c : Addr} {n cap cap' k : Nat} (hsr : SR φ a n cap c cap') {vs us : List Value} {A' : AW} (h : A.store (a.add k) vs = some A') (hv : Rs φ vs us) (hk : vs ≠ [] → 0 < n ∨ 0 < cap) :
  ∃ w', (storeCells (c.add k) us).run P w = .ok () w' ∧ Sim P φ A' w' ∧ Onw φ A w φ A' w' := by
 by_cases hc : vs = []
 ·subst hc
  obtain rfl := hv.nil_inv
  obtain ⟨cs, _, e, g, fz, ish, hg, _⟩ := store_some h
  have hb : (a.add k).block = a.block := by unfold Addr.add; split <;> rfl
  obtain ⟨_, x, hx, _⟩ := hsr
  rw [hb] at hg
  obtain ⟨d, ex, o', rfl, _⟩ := hs.live hg hx
  obtain ⟨w', h1, h2, h3⟩ := hs.stores (c := ⟨d, (a.add k).off, (a.add k).spot⟩) (us := []) ⟨_, by rw [hb]; exact hx, fun y z e => by simp at e; exact ⟨rfl, rfl, e.1⟩⟩ h Rs.nil
  simp only [storeCells, Sem.run_pure, Result.ok.injEq, true_and] at h1
  subst h1
  exact ⟨w, rfl, h2, h3⟩
 ·exact hs.stores ((hsr.ar (hk hc)).add k) h hv
theorem run_choose_append (need old : Nat) (e : TypeId) : ∃ k w', (choose (.appendCap need old e)).run P w = .ok (need + k) w' ∧ w'.heap = w.heap ∧ SameOut w w' := by
 refine ⟨w.tape w.drawn (.appendCap need old e) % (2 ^ 63 - need), { w with drawn := w.drawn + 1 }, ?_, rfl, rfl, rfl, rfl⟩
 simp [choose, Sem.run, Question.forced, Question.cut]
theorem zeroCells_size (z : Array Value) (n : Nat) : (Builtin.zeroCells z n).size = n * z.size := by simp [Builtin.zeroCells]
theorem append_grows {t tx ty e : TypeId} {ux : Value} {esz bytes len n cap' : Nat} {z : Value} {base' : Option Addr} {argTypes : Array TypeId} {d : TypeDesc} {olds us : List Value}
  (h0 : argTypes[0]? = some t) (h1 : argTypes[1]? = some tx) (hd : P.underlying tx = some d) (hdi : ∀ k, d ≠ .int k) (ht : P.underlying t = some (.slice e)) (hn : sizeT P e = some esz) (hb : bytesT P e = some bytes) (hz : zeroT P e = some z)
  (hzl : z.cells.toList.length = esz) (hlen : Builtin.lenOf ux = pure n) (hold : ∀ w', w'.heap = w.heap → (Builtin.firstCells esz len (.slice base' len cap')).run P w' = .ok olds.toArray w')
  (hnew : ∀ w', w'.heap = w.heap → (Builtin.firstCells esz n ux).run P w' = .ok us.toArray w') (hg : cap' < len + n) (hb1 : 1 ≤ bytes) (hfit : (2 * (len + n) + 200) * bytes ≤ 2 ^ 48) :
  ∃ k w' arr, (Builtin.append_ argTypes ty #[.slice base' len cap', ux]).run P w = .ok (.slice (some ⟨w.heap.size, 0, none⟩) (len + n) (len + n + k)) w' ∧ w'.heap = w.heap.push (.cells arr e (0, 0)) ∧
   arr.toList.take (olds ++ us).length = olds ++ us ∧ arr.size = (olds ++ us).length + k * esz ∧ SameOut w w' := by
 obtain ⟨i, hi, hib⟩ := bytesT_some hb
 obtain ⟨k, w1, hk, hw1, hso⟩ := run_choose_append (P := P) (w := w) (len + n) cap' e
 have hcap := nextslicecap_le hg
 have hfit2 : ¬ (Builtin.nextslicecap (len + n) cap' * i.bytes > 2 ^ 48) := by
  rw [hib]
  have : Builtin.nextslicecap (len + n) cap' * bytes ≤ (2 * (len + n) + 200) * bytes := Nat.mul_le_mul_right _ (by omega)
  omega
 refine ⟨k, { w1 with heap := w1.heap.push (.cells (olds.toArray ++ us.toArray ++ Builtin.zeroCells z.cells k) e (0, 0)) }, olds.toArray ++ us.toArray ++ Builtin.zeroCells z.cells k, ?_, by rw [hw1], ?_, ?_, hso.trans ⟨rfl, rfl, rfl⟩⟩
 ·have hne : ¬ (((len + n : Nat) : Int) > IntKind.i64.max ∧ (False ∨ i.bytes = 0)) := by rintro ⟨_, h | h⟩ <;> omega
  have hng : ¬ (len + n ≤ cap') := by omega
  have a0 : (#[Value.slice base' len cap', ux] : Array Value)[0]? = some (.slice base' len cap') := rfl
  have a1 : (#[Value.slice base' len cap', ux] : Array Value)[1]? = some ux := rfl
  cases d <;> first | (exact absurd rfl (hdi _)) | skip
  all_goals
   simp only [Builtin.append_, h0, h1, a0, a1, Sem.run_bind, run_und ht, Result.andThen_ok, run_size hn, run_und hd, Sem.run_pure, Bool.false_eq_true, if_false, hlen, if_neg hng, run_info hi, if_neg hne, if_neg hfit2, hk, run_askRoom', hold w1 hw1, Bool.not_false, if_true, hnew w1 hw1, run_zero hz, newRow, newObj, Sem.run, Nat.add_sub_cancel_left]
   rw [hw1]
 ·simp only [Array.toList_append, List.append_assoc]
  rw [← List.append_assoc, List.take_left' rfl]
 ·have : z.cells.size = esz := by simpa using hzl
  simp [zeroCells_size, this]
theorem append_room {t tx ty e : TypeId} {ux : Value} {esz len n cap' : Nat} {base' : Option Addr} {argTypes : Array TypeId} {d : TypeDesc} {us : List Value} {w' : World}
  (h0 : argTypes[0]? = some t) (h1 : argTypes[1]? = some tx) (hd : P.underlying tx = some d) (hdi : ∀ k, d ≠ .int k) (ht : P.underlying t = some (.slice e)) (hn : sizeT P e = some esz)
  (hlen : Builtin.lenOf ux = pure n) (hnew : (Builtin.firstCells esz n ux).run P w = .ok us.toArray w) (hg : len + n ≤ cap')
  (hst : ∀ a, base' = some a → (storeCells (a.add (len * esz)) us).run P w = .ok () w') (hno : base' = none → w' = w) :
  (Builtin.append_ argTypes ty #[.slice base' len cap', ux]).run P w = .ok (.slice base' (len + n) cap') w' := by
 have a0 : (#[Value.slice base' len cap', ux] : Array Value)[0]? = some (.slice base' len cap') := rfl
 have a1 : (#[Value.slice base' len cap', ux] : Array Value)[1]? = some ux := rfl
 cases base' with
 | none =>
  obtain rfl := hno rfl
  cases d <;> first | (exact absurd rfl (hdi _)) | skip
  all_goals
   simp only [Builtin.append_, h0, h1, a0, a1, Sem.run_bind, run_und ht, Result.andThen_ok, run_size hn, run_und hd, Sem.run_pure, Bool.false_eq_true, if_false, hlen, if_pos hg, Bool.not_false, if_true, hnew]
 | some a =>
  have := hst a rfl
  cases d <;> first | (exact absurd rfl (hdi _)) | skip
  all_goals
   simp only [Builtin.append_, h0, h1, a0, a1, Sem.run_bind, run_und ht, Result.andThen_ok, run_size hn, run_und hd, Sem.run_pure, Bool.false_eq_true, if_false, hlen, if_pos hg, Bool.not_false, if_true, hnew, this]
theorem store_rename (hs : Sim P φ A w) {a c : Addr} (hac : AR φ a c) {cs rn : Row} {e : TypeId} {fz : Nat × Nat} {ish : Bool} (hg : A.get a.block = some (.cells cs e true fz ish)) (hsp : a.spot = none)
  {d ex : Nat} (hφ : φ a.block = some (some (d, ex))) {esz len n k : Nat} (hn : sizeT P e = some esz) (h0 : a.off = 0) (hcap : cs.list.length + ex * esz = (len + n + k) * esz) (hlen : len * esz ≤ cs.list.length)
  (hfz : fz.2 ≤ len * esz) {vs us : List Value} (hrn : rn.list = cs.list.take (len * esz) ++ vs) (hv : Rs φ vs us) (hvl : vs.length = n * esz) (hone : vs.all Value.oneCell' = true) :
  ∃ w' φ', (storeCells (c.add (len * esz)) us).run P w = .ok () w' ∧ φ' A.next = some (some (d, k)) ∧ Sim P φ' ((A.del a.block).alloc (.cells rn e true fz ish)) w' ∧
   Onw φ A w φ' ((A.del a.block).alloc (.cells rn e true fz ish)) w' := by
 obtain ⟨ex', o', hφ', ho, hsp', hc, arr, fz', rfl, hsz, hrs, hgx, hf1, hf2, hf3⟩ := hs.liveA hac hg
 rw [hφ] at hφ'
 obtain ⟨rfl, rfl⟩ : d = c.block ∧ ex = ex' := by simpa using hφ'
 have hcs' : c.spot = none := by rw [← hsp', hsp]
 have hc0 : c.off = 0 := by rw [← ho, h0]
 have hadd : c.add (len * esz) = ⟨c.block, len * esz, none⟩ := by rw [add_eq hcs', hc0, Nat.zero_add]
 have hsz' : arr.size = (len + n + k) * esz := by rw [hsz, hn]; exact hcap
 have hul : us.length = n * esz := by rw [← hv.1, hvl]
 have hmul : (len + n + k) * esz = len * esz + n * esz + k * esz := by rw [Nat.add_mul, Nat.add_mul]
 obtain ⟨w', k1, k2, k3, k4⟩ := run_stores (P := P) c.block (len * esz) e fz' us 0 arr w hc (fun j hj => by
   rw [Nat.add_zero]
   by_cases hne : fz.1 = fz.2
   ·exact hf2 hne (len * esz + j) (by omega)
   ·have := hf1 hne
    omega) (by omega) (hv.one hone)
 rw [hadd]
 have hlen' : len * esz ≤ cs.n := by rw [← Row.list_length]; exact hlen
 refine ⟨w', ?_⟩
 obtain ⟨φ', p1, p2, p3⟩ := hs.rename hφ k2 k3 k4 (o := .cells rn e true fz ish) (ex' := k) ⟨_, fz', rfl, by
   rw [hrn]
   simp only [Nat.add_zero, List.size_toArray, List.length_append, List.length_take, hn, Option.getD_some]
   rw [setAt_length _ _ _ (by simp; omega)]
   simp
   rw [hvl, Nat.min_eq_left hlen']
   omega, by
   rw [hrn]
   have e1 : (cs.list.take (len * esz) ++ vs).length = len * esz + us.length := by simp [hvl, hul, Nat.min_eq_left hlen']
   simp only [Nat.add_zero]
   rw [e1, setAt_eq _ _ _ (by simp; omega), List.take_left' (by simp; omega)]
   refine Rs.append ?_ hv
   have := hrs.take (len * esz)
   rwa [List.take_take, Nat.min_eq_left hlen] at this, fun e => (by cases e), hf1, by
   simp only [Nat.add_zero, List.size_toArray]
   rw [setAt_length _ _ _ (by simp; omega)]
   simpa using hf2, hf3⟩
 exact ⟨φ', k1, p1, p2, p3⟩
structure AppRun (P : Program) (argTypes : Array TypeId) (ty e : TypeId) (esz bytes : Nat) (ux : Value) (n : Nat) (us : List Value) (w : World) : Prop where
 room : ∀ {base' : Option Addr} {len cap' : Nat} {w' : World}, len + n ≤ cap' → (∀ a, base' = some a → (storeCells (a.add (len * esz)) us).run P w = .ok () w') → (base' = none → w' = w) →
  (Builtin.append_ argTypes ty #[.slice base' len cap', ux]).run P w = .ok (.slice base' (len + n) cap') w'
 grow : ∀ {base' : Option Addr} {len cap' : Nat} {olds : List Value}, (∀ w', w'.heap = w.heap → (Builtin.firstCells esz len (.slice base' len cap')).run P w' = .ok olds.toArray w') → cap' < len + n → 1 ≤ bytes → (2 * (len + n) + 200) * bytes ≤ 2 ^ 48 →
  ∃ k w' arr, (Builtin.append_ argTypes ty #[.slice base' len cap', ux]).run P w = .ok (.slice (some ⟨w.heap.size, 0, none⟩) (len + n) (len + n + k)) w' ∧ w'.heap = w.heap.push (.cells arr e (0, 0)) ∧
   arr.toList.take (olds ++ us).length = olds ++ us ∧ arr.size = (olds ++ us).length + k * esz ∧ SameOut w w'
theorem append_gen {ty e : TypeId} {esz bytes n cap m : Nat} {a : Option Addr} {u ux : Value} {argTypes : Array TypeId} {new us : List Value} {p : Value × AW} {K : Value → M ρ}
  (hA : A.appendL e esz bytes a n cap m new = some p) (h : (match some p with
   | some (.slice b n c, A') => K (.slice b n c) A'
   | _ => .stuck) = r) (_ : r ≠ .stuck) (hs : Sim P φ A w) (hR : AppRun P argTypes ty e esz bytes ux m us w) (e2 : Rs φ new us) (hz0 : m = 0 → new = []) (hn : sizeT P e = some esz)
  (hv : VR φ (.slice a n cap) u) : DoesV P φ A w r K (Builtin.append_ argTypes ty #[u, ux]) := by
  unfold AW.appendL at hA
  by_cases hroom : n + m ≤ cap
  ·rw [show Nat.ble (n + m) cap = true from ble_iff.2 hroom] at hA
   simp only [cond_true] at hA
   cases hv with
   | nilSlice hnc =>
    simp only [Option.some.injEq] at hA
    subst hA
    exact ⟨_, A, φ, w, _, h.symm, hR.room hroom (fun a e => by cases e) (fun _ => rfl), hs, .nilSlice hroom, Onw.refl _ _ _⟩
   | slice _ hsr =>
    rename_i a c cap'
    simp only at hA
    cases hst : A.store (a.add (n * esz)) new with
    | none => rw [hst] at hA; cases hA
    | some A' =>
     rw [hst] at hA
     simp only [Option.some.injEq] at hA
     subst hA
     obtain ⟨w', k1, k2, k3⟩ := hs.storesAt hsr hst e2 (fun hne => by
      by_cases hm0 : m = 0
      ·exact absurd (hz0 hm0) hne
      ·omega)
     exact ⟨_, A', φ, w', _, h.symm, hR.room (Nat.le_trans hroom hsr.1.2) (fun a' e => by obtain rfl := Option.some.inj e; exact k1) (fun e => by cases e), k2,
      .slice _ ⟨⟨hroom, hsr.1.2⟩, by
       obtain ⟨⟨q1, q2⟩, y, hy, hy2⟩ := hsr
       refine ⟨y, hy, fun d e he => ⟨(hy2 d e he).1, ?_⟩⟩
       rcases (hy2 d e he).2 with ⟨g1, g2⟩ | g1
       ·left; omega
       ·exact .inr g1⟩, k3⟩
  ·rw [show Nat.ble (n + m) cap = false by cases hb : Nat.ble (n + m) cap; rfl; exact absurd (ble_iff.1 hb) hroom] at hA
   simp only [cond_false] at hA
   obtain ⟨hbb, hA⟩ := cond_some hA
   simp only [Bool.and_eq_true, ble_iff] at hbb
   obtain ⟨⟨⟨⟨hes, hb1⟩, hfit⟩, hnl⟩, hone⟩ := hbb
   have hnl := Nat.eq_of_beq_eq_true hnl
   cases hv with
   | nilSlice hnc =>
    simp only [Option.some.injEq] at hA
    subst hA
    obtain ⟨k, w', arr, g1, g2, g3, g4, gso⟩ := hR.grow (base' := none) (cap' := cap) (olds := []) (fun _ _ => rfl) (by omega) hb1 hfit
    obtain ⟨s1, s2⟩ := hs.alloc (o := .cells (Row.ofList new) e true (0, 0) false) (ex := k) g2 ⟨arr, (0, 0), rfl, by
      rw [g4, hn, Row.ofList_list]; simp [e2.1], by
      rw [List.nil_append] at g3
      rw [Row.ofList_list]
      rw [e2.1, g3]; exact e2, fun e => (by cases e), by simp, by intro _ i _; omega, fun _ => rfl, Nat.le_refl _⟩ gso
    exact ⟨_, _, _, w', _, h.symm, g1, s1, .slice _ (SR.new (setPhi_same _ _ _) (Nat.le_refl _) rfl), s2⟩
   | @slice a c _ _ cap' hsr =>
    simp only at hA
    cases hga : A.get a.block with
    | none => rw [hga] at hA; cases hA
    | some oa =>
     rw [hga] at hA
     cases oa with
     | cells cs e' g fz ish =>
      simp only at hA
      obtain ⟨hbr, hA⟩ := cond_some hA
      simp only [Bool.and_eq_true, ble_iff] at hbr
      cases hold : A.cellsAt a (n * esz) with
      | none =>
       unfold AW.cellsAt at hold
       rw [hga] at hold
       simp only at hold
       rw [hbr.1, cond_true, Row.read_eq, if_pos (by rw [Row.list_length]; exact hbr.2)] at hold
       cases hold
      | some old =>
       have happ := Row.app_list (vs := new) hbr.2
       obtain ⟨olds, q1, q2⟩ := elems_sound (P := P) hs (x := .slice (some a) n cap) (esz := esz) (n := n) (.slice n hsr) (peek_cells hold) rfl (Nat.le_refl _)
       obtain ⟨cs1, e1x, g1x, fz1, ish1, hga', hsp, hle, rfl⟩ := cellsAt_some hold
       rw [hga] at hga'
       simp only [Option.some.injEq, AObj.cells.injEq] at hga'
       obtain ⟨rfl, rfl, rfl, rfl, rfl⟩ := hga'
       obtain ⟨y, hy, hy2⟩ := hsr.2
       obtain ⟨d', ex, o', rfl, hw, hobj⟩ := hs.live hga hy
       obtain ⟨hcap', haddr⟩ := hy2 d' ex rfl
       cases g with
       | true =>
        simp only [cond_true] at hA
        obtain ⟨hbb, hA⟩ := cond_some hA
        simp only [Bool.and_eq_true, ble_iff] at hbb
        clear hbr
        obtain ⟨⟨⟨ho0, he'⟩, hfz⟩, hcl⟩ := hbb
        have ho0 := Nat.eq_of_beq_eq_true ho0
        obtain rfl := Nat.eq_of_beq_eq_true he'
        have hcl := Nat.eq_of_beq_eq_true hcl
        simp only [Option.some.injEq] at hA
        subst hA
        rw [ho0, List.drop_zero] at q2 happ
        rw [ho0] at h
        rw [← Row.list_length] at hcl
        by_cases hroom' : n + m ≤ cap'
        ·have hce : cap' = cap + ex := by omega
         have hac : AR φ a c := ⟨_, hy, fun y z e => by
          simp only [Option.some.injEq, Prod.mk.injEq] at e
          obtain ⟨rfl, rfl⟩ := e
          rcases haddr with ⟨g1, g2⟩ | g1
          ·omega
          ·exact g1⟩
         have hmul : (n + m + (cap' - (n + m))) * esz = cap * esz + ex * esz := by rw [← Nat.add_mul]; congr 1; omega
         obtain ⟨w', φ', g1, p1, p2, p3⟩ := store_rename (n := m) (k := cap' - (n + m)) hs hac hga hsp hy hn ho0 (by omega) (by omega) hfz happ e2 hnl hone
         exact ⟨_, _, φ', w', _, h.symm, hR.room hroom' (fun a' e => by obtain rfl := Option.some.inj e; exact g1) (fun e => by cases e), p2,
          .slice _ ⟨⟨Nat.le_refl _, hroom'⟩, _, p1, fun y z e => by
           simp only [Option.some.injEq, Prod.mk.injEq] at e
           obtain ⟨rfl, rfl⟩ := e
           rcases haddr with ⟨g1, g2⟩ | ⟨g1, g2, g3⟩
           ·omega
           ·exact ⟨.inr (by omega), .inr ⟨by rw [← g1, ho0], by rw [← g2, hsp], g3⟩⟩⟩, p3⟩
        ·obtain ⟨k, w', arr, g1, g2, g3, g4, gso⟩ := hR.grow (base' := some c) (olds := olds) q1 (by omega) hb1 hfit
         have hrs := q2.append e2
         obtain ⟨φ', p1, p2, p3⟩ := hs.moved hy (o := .cells (cs.app 0 (n * esz) new) e' true fz ish) (ex := k) g2 ⟨arr, (0, 0), rfl, by
          rw [g4, hn, happ, hrs.1]; rfl, by
          rw [happ, hrs.1, g3]; exact hrs, fun e => (by cases e), fun _ => .inl rfl, by intro _ i _; omega, fun _ => rfl, Nat.le_refl _⟩ gso
         exact ⟨_, _, φ', w', _, h.symm, g1, p2, .slice _ (SR.new p1 (Nat.le_refl _) rfl), p3⟩
       | false =>
        simp only [cond_false, Option.some.injEq] at hA
        subst hA
        obtain ⟨arr0, fz', rfl, hsz, hrs0, hgx, _⟩ := hobj
        have hex := hgx rfl
        obtain ⟨k, w', arr, g1, g2, g3, g4, gso⟩ := hR.grow (base' := some c) (olds := olds) q1 (by omega) hb1 hfit
        have hrs := q2.append e2
        obtain ⟨s1, s2⟩ := hs.alloc (o := .cells (cs.app a.off (n * esz) new) e true (0, 0) false) (ex := k) g2 ⟨arr, (0, 0), rfl, by
          rw [g4, hn, happ, hrs.1]; rfl, by
          rw [happ, hrs.1, g3]; exact hrs, fun e => (by cases e), by simp, by intro _ i _; omega, fun _ => rfl, Nat.le_refl _⟩ gso
        exact ⟨_, _, _, w', _, h.symm, g1, s1, .slice _ (SR.new (setPhi_same _ _ _) (Nat.le_refl _) rfl), s2⟩
     | _ => cases hA
theorem append_sound {t tx ty e : TypeId} {esz bytes n cap : Nat} {a : Option Addr} {x u ux : Value} {z : Value} {argTypes : Array TypeId} {d : TypeDesc} {K : Value → M ρ}
  (h : M.append e esz bytes a n cap x (fun a n c => K (.slice a n c)) A = r) (hr : r ≠ .stuck) (hs : Sim P φ A w) (h0 : argTypes[0]? = some t) (h1 : argTypes[1]? = some tx) (hd : P.underlying tx = some d) (hdi : ∀ k, d ≠ .int k)
  (ht : P.underlying t = some (.slice e)) (hn : sizeT P e = some esz) (hb : bytesT P e = some bytes) (hz : zeroT P e = some z) (hzl : z.cells.toList.length = esz)
  (hv : VR φ (.slice a n cap) u) (hx : VR φ x ux) : DoesV P φ A w r K (Builtin.append_ argTypes ty #[u, ux]) := by
 unfold M.append at h
 cases hA : A.append e esz bytes a n cap x with
 | none => rw [hA] at h; exact absurd h.symm hr
 | some p =>
  rw [hA] at h
  unfold AW.append at hA
  cases hm : lenV x with
  | none => rw [hm] at hA; cases hA
  | some m =>
   rw [hm] at hA
   simp only at hA
   cases hnew : A.elems esz m x with
   | none => rw [hnew] at hA; cases hA
   | some new =>
    rw [hnew] at hA
    simp only at hA
    obtain ⟨us, e1', e2⟩ := elems_sound (P := P) hs hx hnew hm (Nat.le_refl _)
    have e1 := e1' w rfl
    have hlx := lenOf_run hx hm
    exact append_gen hA h hr hs ⟨fun hg hst hno => append_room h0 h1 hd hdi ht hn hlx e1 hg hst hno, fun hold hg hb1 hf => append_grows h0 h1 hd hdi ht hn hb hz hzl hlx hold e1' hg hb1 hf⟩ e2
     (fun hm0 => by subst hm0; exact elems_zero hnew) hn hv
theorem zeros_run {t tx ty e : TypeId} {esz bytes : Nat} {z : Value} {argTypes : Array TypeId} {k kk : IntKind} {m : Int} {us : Array Value} (h0 : argTypes[0]? = some t) (h1 : argTypes[1]? = some tx) (hd : P.underlying tx = some (.int kk))
  (ht : P.underlying t = some (.slice e)) (hn : sizeT P e = some esz) (hb : bytesT P e = some bytes) (hz : zeroT P e = some z) (hzl : z.cells.toList.length = esz) (hm0 : 0 ≤ m) (hmb : m * (bytes : Int) ≤ 2 ^ 48) (hmm : m ≤ 2 ^ 48)
  (hu0 : m.toNat * esz = 0 → us = #[]) (hu1 : m.toNat * esz ≠ 0 → us = Builtin.zeroCells z.cells m.toNat) : AppRun P argTypes ty e esz bytes (.int k m) m.toNat us.toList w := by
 obtain ⟨i, hi, hib⟩ := bytesT_some hb
 have hw : IntKind.i64.wrap m = m := wrap64_of (by omega) (by omega)
 have hneg : ¬ (m < 0) := by omega
 have hbig : ¬ (m * (i.bytes : Int) > 2 ^ 48) := by rw [hib]; omega
 have app : ∀ w' : World, ((if m.toNat * esz = 0 then (pure #[] : Sem (Array Value)) else do pure (Builtin.zeroCells (← zeroValue e).cells m.toNat)) : Sem (Array Value)).run P w' = .ok us w' := by
  intro w'
  by_cases h : m.toNat * esz = 0
  ·rw [if_pos h, hu0 h]; rfl
  ·rw [if_neg h, hu1 h]
   simp only [Sem.run_bind, run_zero hz, Result.andThen_ok, Sem.run_pure]
 constructor
 ·intro base' len cap' w' hg hst hno
  have a0 : (#[Value.slice base' len cap', .int k m] : Array Value)[0]? = some (.slice base' len cap') := rfl
  have a1 : (#[Value.slice base' len cap', .int k m] : Array Value)[1]? = some (.int k m) := rfl
  cases base' with
  | none =>
   obtain rfl := hno rfl
   simp only [Builtin.append_, h0, h1, a0, a1, Sem.run_bind, run_und ht, Result.andThen_ok, run_size hn, run_und hd, Sem.run_pure, if_true, asInt, asIntOf, hw, if_neg hneg, run_info hi, if_neg hbig, if_pos hg, Bool.not_true, Bool.false_eq_true, if_false, app]
  | some a =>
   have := hst a rfl
   simp only [Builtin.append_, h0, h1, a0, a1, Sem.run_bind, run_und ht, Result.andThen_ok, run_size hn, run_und hd, Sem.run_pure, if_true, asInt, asIntOf, hw, if_neg hneg, run_info hi, if_neg hbig, if_pos hg, Bool.not_true, Bool.false_eq_true, if_false, app, this]
 ·intro base' len cap' olds hold hg hb1 hfit
  have a0 : (#[Value.slice base' len cap', .int k m] : Array Value)[0]? = some (.slice base' len cap') := rfl
  have a1 : (#[Value.slice base' len cap', .int k m] : Array Value)[1]? = some (.int k m) := rfl
  obtain ⟨kc, w1, hk, hw1, hso⟩ := run_choose_append (P := P) (w := w) (len + m.toNat) cap' e
  have hcap := nextslicecap_le hg
  have hfit2 : ¬ (Builtin.nextslicecap (len + m.toNat) cap' * i.bytes > 2 ^ 48) := by
   rw [hib]
   have : Builtin.nextslicecap (len + m.toNat) cap' * bytes ≤ (2 * (len + m.toNat) + 200) * bytes := Nat.mul_le_mul_right _ (by omega)
   omega
  have hlen : len + m.toNat ≤ 2 ^ 48 := by
   have : (2 * (len + m.toNat) + 200) * 1 ≤ (2 * (len + m.toNat) + 200) * bytes := Nat.mul_le_mul_left _ hb1
   omega
  have hne : ¬ (((len + m.toNat : Nat) : Int) > IntKind.i64.max ∧ (True ∨ i.bytes = 0)) := by
   rintro ⟨h, _⟩
   have : IntKind.i64.max = 9223372036854775807 := by decide
   omega
  have hng : ¬ (len + m.toNat ≤ cap') := by omega
  refine ⟨kc, { w1 with heap := w1.heap.push (.cells (olds.toArray ++ us ++ Builtin.zeroCells z.cells kc) e (0, 0)) }, olds.toArray ++ us ++ Builtin.zeroCells z.cells kc, ?_, by rw [hw1], ?_, ?_, hso.trans ⟨rfl, rfl, rfl⟩⟩
  ·simp only [Builtin.append_, h0, h1, a0, a1, Sem.run_bind, run_und ht, Result.andThen_ok, run_size hn, run_und hd, Sem.run_pure, if_true, asInt, asIntOf, hw, if_neg hneg, run_info hi, if_neg hbig, if_neg hng, if_neg hne, if_neg hfit2, hk, run_askRoom', hold w1 hw1, Bool.not_true, Bool.false_eq_true, if_false, app, run_zero hz, newRow, newObj, Sem.run, Nat.add_sub_cancel_left]
   rw [hw1]
  ·simp only [Array.toList_append, List.append_assoc]
   rw [← List.append_assoc, List.take_left' rfl]
  ·have : z.cells.size = esz := by simpa using hzl
   simp [zeroCells_size, this, Nat.add_assoc]
theorem appendZ_sound {t tx ty e : TypeId} {esz bytes n cap : Nat} {a : Option Addr} {u ux : Value} {z : Value} {argTypes : Array TypeId} {k kk : IntKind} {m : Int} {K : Value → M ρ}
  (h : M.appendZ e esz bytes a n cap m z.cells.toList (fun a n c => K (.slice a n c)) A = r) (hr : r ≠ .stuck) (hs : Sim P φ A w) (h0 : argTypes[0]? = some t) (h1 : argTypes[1]? = some tx) (hd : P.underlying tx = some (.int kk))
  (ht : P.underlying t = some (.slice e)) (hn : sizeT P e = some esz) (hb : bytesT P e = some bytes) (hz : zeroT P e = some z) (hzl : z.cells.toList.length = esz) (hp : plain z = true)
  (hv : VR φ (.slice a n cap) u) (hx : VR φ (.int k m) ux) : DoesV P φ A w r K (Builtin.append_ argTypes ty #[u, ux]) := by
 unfold M.appendZ at h
 cases hc : (decide (0 ≤ m) && decide (m * (bytes : Int) ≤ 2 ^ 48) && decide (m ≤ 2 ^ 48)) with
 | false => rw [hc] at h; exact absurd h.symm hr
 | true =>
  rw [hc] at h
  simp only [cond_true] at h
  simp only [Bool.and_eq_true, decide_eq_true_eq] at hc
  cases hA : A.appendL e esz bytes a n cap m.toNat (Row.repL z.cells.toList m.toNat) with
  | none => rw [hA] at h; exact absurd h.symm hr
  | some p =>
   rw [hA] at h
   cases hx with
   | int _ _ =>
   have hsz : z.cells.size = esz := by simpa using hzl
   refine append_gen hA h hr hs (zeros_run (us := if m.toNat * esz = 0 then #[] else Builtin.zeroCells z.cells m.toNat) h0 h1 hd ht hn hb hz hzl hc.1.1 hc.1.2 hc.2 (fun e => if_pos e) (fun e => if_neg e)) ?_ (fun h0 => by rw [h0]; rfl) hn hv
   by_cases h9 : m.toNat * esz = 0
   ·rw [if_pos h9]
    have : Row.repL z.cells.toList m.toNat = [] := List.length_eq_zero_iff.1 (by rw [Row.repL_length, hzl]; exact h9)
    rw [this]; exact Rs.nil
   ·rw [if_neg h9]
    have e9 : (Builtin.zeroCells z.cells m.toNat).toList = Row.repL z.cells.toList m.toNat := by
     have := range_repeat z m.toNat (by rw [hzl]; exact (Nat.eq_zero_or_pos esz).elim (fun h => by rw [h] at h9; simp at h9) id)
     refine Eq.trans ?_ this
     unfold Builtin.zeroCells
     simp
    rw [e9]
    exact repeatA_Rs hp φ m.toNat
theorem copy_sound {t ty e : TypeId} {esz n cap : Nat} {a : Option Addr} {x u ux : Value} {argTypes : Array TypeId} {K : Value → M ρ}
  (h : M.copy esz a n x (fun m => K (.int .i64 (m : Int))) A = r) (hr : r ≠ .stuck) (hs : Sim P φ A w) (h0 : argTypes[0]? = some t)
  (ht : P.underlying t = some (.slice e)) (hn : sizeT P e = some esz)
  (hv : VR φ (.slice a n cap) u) (hx : VR φ x ux) : DoesV P φ A w r K (Builtin.copy_ argTypes ty #[u, ux]) := by
 unfold M.copy at h
 cases hm : lenV x with
 | none => rw [hm] at h; exact absurd h.symm hr
 | some m =>
  rw [hm] at h
  simp only at h
  cases hnew : A.elems esz (Nat.min m n) x with
  | none => rw [hnew] at h; exact absurd h.symm hr
  | some new =>
   rw [hnew] at h
   simp only at h
   obtain ⟨us, e1', e2⟩ := elems_sound (P := P) hs hx hnew hm (Nat.min_le_left _ _)
   have e1 := e1' w rfl
   have hlx := lenOf_run hx hm
   have b0 : ∀ u : Value, (#[u, ux] : Array Value)[0]? = some u := fun _ => rfl
   have b1 : ∀ u : Value, (#[u, ux] : Array Value)[1]? = some ux := fun _ => rfl
   cases hv with
   | nilSlice hnc =>
    refine ⟨_, A, φ, w, goInt (Nat.min m n), h.symm, ?_, hs, .int _ _, Onw.refl _ _ _⟩
    simp only [Builtin.copy_, h0, b0, b1, Sem.run_bind, run_und ht, Result.andThen_ok, hlx, Sem.run_pure, run_size hn, e1]
   | @slice a c _ _ cap' hsr =>
    simp only at h
    cases hst : A.store a new with
    | none => rw [hst] at h; exact absurd h.symm hr
    | some A' =>
     rw [hst] at h
     obtain ⟨w', k1, k2, k3⟩ := hs.storesAt (k := 0) hsr (by simpa [Addr.add] using hst) e2 (fun hne => by
      by_cases hm0 : Nat.min m n = 0
      ·rw [hm0] at hnew; exact absurd (elems_zero hnew) hne
      ·left
       have : Nat.min m n ≤ n := Nat.min_le_right _ _
       omega)
     have k1' : (storeCells c us).run P w = .ok () w' := by simpa [Addr.add] using k1
     refine ⟨_, A', φ, w', goInt (Nat.min m n), h.symm, ?_, k2, .int _ _, k3⟩
     simp only [Builtin.copy_, h0, b0, b1, Sem.run_bind, run_und ht, Result.andThen_ok, hlx, Sem.run_pure, run_size hn, e1, k1']
theorem clear_sound {t ty e : TypeId} {n cap : Nat} {a : Option Addr} {u z : Value} {argTypes : Array TypeId} {K : Value → M ρ}
  (h : (match a with
   | none => K (.tuple #[])
   | some a => cond (Nat.ble 1 n) (M.store a (repeatA z.cells.toList n) (K (.tuple #[]))) (K (.tuple #[]))) A = r) (hr : r ≠ .stuck) (hs : Sim P φ A w) (h0 : argTypes[0]? = some t)
  (ht : P.underlying t = some (.slice e)) (hz : zeroT P e = some z) (hp : plain z = true) (hl : 1 ≤ z.cells.toList.length) (hv : VR φ (.slice a n cap) u) : DoesV P φ A w r K (Builtin.clear_ argTypes ty #[u]) := by
 have b0 : ∀ u : Value, (#[u] : Array Value)[0]? = some u := fun _ => rfl
 have hvt : VR φ (.tuple #[]) (.tuple #[]) := .tuple rfl (fun i x y hx => by simp at hx)
 cases hv with
 | nilSlice hnc =>
  refine ⟨_, A, φ, w, .tuple #[], h.symm, ?_, hs, hvt, Onw.refl _ _ _⟩
  simp only [Builtin.clear_, h0, b0, Sem.run_bind, run_und ht, Result.andThen_ok, Sem.run_pure]
 | @slice a c _ _ cap' hsr =>
  simp only at h
  cases n with
  | zero =>
   refine ⟨_, A, φ, w, .tuple #[], h.symm, ?_, hs, hvt, Onw.refl _ _ _⟩
   simp only [Builtin.clear_, h0, b0, Sem.run_bind, run_und ht, Result.andThen_ok, Sem.run_pure]
  | succ n =>
   have hb : Nat.ble 1 (n + 1) = true := ble_iff.2 (by omega)
   rw [hb] at h
   simp only [cond_true] at h
   unfold M.store at h
   cases hst : A.store a (repeatA z.cells.toList (n + 1)) with
   | none => rw [hst] at h; exact absurd h.symm hr
   | some A' =>
    rw [hst] at h
    obtain ⟨arr, z1, z2, z3⟩ := row_zero (φ := φ) (n := n + 1) (s := z.cells.toList.length) rfl hl hp
    have z2 := z2 (by
     have := Nat.mul_le_mul (show 1 ≤ n + 1 by omega) hl
     omega)
    obtain ⟨w', k1, k2, k3⟩ := hs.storesAt (k := 0) (us := arr.toList) hsr (by simpa [Addr.add] using hst) z3 (fun _ => by omega)
    have k1' : (storeCells c arr.toList).run P w = .ok () w' := by simpa [Addr.add] using k1
    have hzc : Builtin.zeroCells z.cells (n + 1) = arr := by rw [← z2]; simp [Builtin.zeroCells]
    refine ⟨_, A', φ, w', .tuple #[], h.symm, ?_, k2, hvt, k3⟩
    simp only [Builtin.clear_, h0, b0, Sem.run_bind, run_und ht, Result.andThen_ok, Sem.run_pure, run_zero hz, hzc, k1']
end Go.Eng
