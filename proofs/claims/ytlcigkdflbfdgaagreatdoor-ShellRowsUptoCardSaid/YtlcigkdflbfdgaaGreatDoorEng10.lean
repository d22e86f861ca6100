/-
 The engine, part 10: what a function of the program comes to over an abstract heap; each part is proved against the model.
-/
import Derived.Test.YtlcigkdflbfdgaaGreatDoorEng9
import Derived.Laws.Append
namespace Go.Eng
open Go
variable {P : Program} {φ : Phi} {A : AW} {ρ : Type} {r : Res ρ} {w : World}
theorem Sim.bound_ne (h : Sim P φ A w) {b : Nat} {x : Option (Nat × Nat)} (hb : φ b = some x) : b ≠ A.next := fun e => by
 have := h.unused; rw [← e, hb] at this; cases this
theorem Sim.rename (h : Sim P φ A w) {b d ex ex' : Nat} (hb : φ b = some (some (d, ex))) {w' : World} {o : AObj} {o' : Obj} (hs' : Sz w w') (hne : ∀ c, c ≠ d → w'.heap[c]? = w.heap[c]?)
  (hd : w'.heap[d]? = some o') (ho : ObjR P φ ex' o o') : ∃ φ', φ' A.next = some (some (d, ex')) ∧ Sim P φ' ((A.del b).alloc o) w' ∧ Onw φ A w φ' ((A.del b).alloc o) w' := by
 have hs := hs'.1
 have hbn := h.bound_ne hb
 have hun : (setPhi φ b none) A.next = none := by rw [setPhi_ne φ _ (fun e => hbn e.symm)]; exact h.unused
 have hle : Le φ (setPhi (setPhi φ b none) A.next (some (d, ex'))) := (le_dead φ b).trans (le_new _ hun)
 have hval : ∀ x, x ≠ A.next → x ≠ b → setPhi (setPhi φ b none) A.next (some (d, ex')) x = φ x := fun x h1 h2 => by rw [setPhi_ne _ _ h1, setPhi_ne _ _ h2]
 have hvb : setPhi (setPhi φ b none) A.next (some (d, ex')) b = some none := by rw [setPhi_ne _ _ hbn]; simp
 refine ⟨_, setPhi_same _ _ _, ⟨fun b' c x hb' => ?_, fun b1 b2 c e1 e2 h1 h2 => ?_, fun b' hb' => ?_, fun b' hb' => ?_, fun b' hb' => ?_⟩, ⟨hle, by omega, by simp, fun c hc hn => ?_, fun b' c x hb' hc => ?_, fun b' hlt hn => ?_, hs'.2⟩⟩
 ·by_cases e1 : b' = A.next
  ·subst e1
   rw [setPhi_same] at hb'
   obtain ⟨rfl, rfl⟩ : d = c ∧ ex' = x := by simpa using hb'
   exact ⟨o, o', by simp, hd, ho.mono hle⟩
  ·by_cases e2 : b' = b
   ·subst e2; rw [hvb] at hb'; cases hb'
   ·rw [hval _ e1 e2] at hb'
    obtain ⟨y, z, k1, k2, k3⟩ := h.obj b' c x hb'
    have hcd : c ≠ d := fun e => e2 (h.inj b' b c x ex hb' (e ▸ hb))
    exact ⟨y, z, by simp [e1, e2, k1], by rw [hne c hcd]; exact k2, k3.mono hle⟩
 ·have key : ∀ x y, setPhi (setPhi φ b none) A.next (some (d, ex')) x = some (some (c, y)) → (x = A.next ∧ c = d) ∨ (x ≠ A.next ∧ x ≠ b ∧ φ x = some (some (c, y))) := by
   intro x y hx
   by_cases e1 : x = A.next
   ·subst e1; rw [setPhi_same] at hx; left; simp at hx; exact ⟨rfl, hx.1.symm⟩
   ·by_cases e2 : x = b
    ·subst e2; rw [hvb] at hx; cases hx
    ·rw [hval _ e1 e2] at hx; exact .inr ⟨e1, e2, hx⟩
  rcases key _ _ h1 with ⟨p1, p2⟩ | ⟨p1, p2, p3⟩ <;> rcases key _ _ h2 with ⟨q1, q2⟩ | ⟨q1, q2, q3⟩
  ·rw [p1, q1]
  ·exact absurd (h.inj _ _ _ _ _ q3 (p2 ▸ hb)) q2
  ·exact absurd (h.inj _ _ _ _ _ p3 (q2 ▸ hb)) p2
  ·exact h.inj _ _ _ _ _ p3 q3
 ·by_cases e1 : b' = A.next
  ·subst e1; simp
  ·by_cases e2 : b' = b
   ·subst e2
    have := h.bound b' (by rw [hb]; simp)
    simp; omega
   ·rw [hval _ e1 e2] at hb'
    have := h.bound b' hb'
    simp; omega
 ·by_cases e1 : b' = A.next
  ·subst e1; rw [setPhi_same] at hb'; cases hb'
  ·by_cases e2 : b' = b
   ·subst e2; simp [hbn]
   ·rw [hval _ e1 e2] at hb'
    simp [e1, e2, h.dead b' hb']
 ·simp at hb'
  have e1 : b' ≠ A.next := by omega
  by_cases e2 : b' = b
  ·subst e2; simp [e1]
  ·simp [e1, e2, h.fresh b' (by omega)]
 ·exact hne c (fun e => hn b ex (e ▸ hb))
 ·by_cases e1 : b' = A.next
  ·subst e1
   rw [setPhi_same] at hb'
   obtain ⟨rfl, rfl⟩ : d = c ∧ ex' = x := by simpa using hb'
   exact ⟨b, ex, hb⟩
  ·by_cases e2 : b' = b
   ·subst e2; rw [hvb] at hb'; cases hb'
   ·rw [hval _ e1 e2] at hb'; exact ⟨b', x, hb'⟩
 ·have e1 : b' ≠ A.next := by omega
  have e2 : b' ≠ b := fun e => by subst e; rw [hb] at hn; cases hn
  exact ⟨by rw [hval _ e1 e2]; exact hn, by simp [e1, e2]⟩
theorem Sim.moved (h : Sim P φ A w) {b : Nat} {x : Option (Nat × Nat)} (hb : φ b = some x) {w' : World} {o : AObj} {o' : Obj} {ex : Nat} (e : w'.heap = w.heap.push o') (ho : ObjR P φ ex o o') (so : SameOut w w' := by exact ⟨rfl, rfl, rfl⟩) :
  ∃ φ', φ' A.next = some (some (w.heap.size, ex)) ∧ Sim P φ' ((A.del b).alloc o) w' ∧ Onw φ A w φ' ((A.del b).alloc o) w' := by
 rcases h.kill b with hk | hk
 ·obtain ⟨s1, s2⟩ := hk.alloc e (ho.mono (le_dead φ b)) so
  exact ⟨_, setPhi_same _ _ _, s1, (h.kill_onw hb).trans s2⟩
 ·rw [hk] at hb; cases hb
theorem Sim.newRow (h : Sim P φ A w) {cs : Row} {arr : Array Value} (hc : Rs φ cs.list arr.toList) (e : TypeId) (g : Bool) {w' : World} (hw : w'.heap = w.heap.push (.cells arr e (0, 0))) (so : SameOut w w' := by exact ⟨rfl, rfl, rfl⟩) :
  ∃ φ', φ' A.next = some (some (w.heap.size, 0)) ∧ Sim P φ' (A.alloc (.cells cs e g (0, 0) false)) w' ∧ Onw φ A w φ' (A.alloc (.cells cs e g (0, 0) false)) w' := by
 have hl : cs.list.length = arr.size := by simpa only [Array.length_toList] using hc.1
 obtain ⟨s1, s2⟩ := h.alloc (o := .cells cs e g (0, 0) false) (ex := 0) hw ⟨arr, (0, 0), rfl, by rw [hl]; simp, by rw [hl, show arr.size = arr.toList.length by simp, List.take_length]; exact hc, fun _ => rfl, by simp, by intro _ i _; omega, fun _ => rfl, Nat.le_refl _⟩ so
 exact ⟨_, setPhi_same _ _ _, s1, s2⟩
theorem AR.new {φ : Phi} {b d ex : Nat} (h : φ b = some (some (d, ex))) : AR φ ⟨b, 0, none⟩ ⟨d, 0, none⟩ := ⟨_, h, fun x y e => by simp at e; exact ⟨rfl, rfl, e.1⟩⟩
theorem SR.new {φ : Phi} {b d ex n c c' : Nat} (h : φ b = some (some (d, ex))) (h1 : n ≤ c) (h2 : c' = c + ex) : SR φ ⟨b, 0, none⟩ n c ⟨d, 0, none⟩ c' :=
 ⟨⟨h1, by omega⟩, _, h, fun x y e => by simp at e; obtain ⟨rfl, rfl⟩ := e; exact ⟨.inr h2, .inr ⟨rfl, rfl, rfl⟩⟩⟩
theorem peek_cases {A : AW} {a : Addr} {n : Nat} {vs : List Value} (h : A.peek a n = some vs) : A.cellsAt a n = some vs ∨ ∃ r p, A.get a.block = some (.pin r p) ∧ a.spot = none ∧ a.off + n ≤ r.list.length ∧ vs = (r.list.drop a.off).take n ∧ vs.all notHole = true := by
 unfold AW.peek at h
 unfold AW.cellsAt
 cases hg : A.get a.block with
 | none => rw [hg] at h; cases h
 | some o =>
  rw [hg] at h
  cases o with
  | cells r e g fz ish => exact .inl h
  | pin r p =>
   simp only at h
   obtain ⟨hs, h⟩ := cond_some h
   rw [Row.read_eq] at h
   by_cases hl : a.off + n ≤ r.list.length
   ·rw [if_pos hl] at h
    simp only at h
    obtain ⟨hh, h⟩ := cond_some h
    obtain rfl := Option.some.inj h
    refine .inr ⟨r, p, rfl, ?_, hl, rfl, hh⟩
    cases hsp : a.spot with
    | none => rfl
    | some s => rw [hsp] at hs; cases hs
   ·rw [if_neg hl] at h; cases h
  | _ => cases h
theorem peek_cells {A : AW} {a : Addr} {n : Nat} {vs : List Value} (h : A.cellsAt a n = some vs) : A.peek a n = some vs := by
 obtain ⟨cs, e, g, fz, ish, hg, _⟩ := cellsAt_some h
 unfold AW.cellsAt at h
 unfold AW.peek
 rw [hg] at h ⊢
 exact h
theorem peek_zero {A : AW} {a : Addr} {vs : List Value} (h : A.peek a 0 = some vs) : vs = [] := by
 rcases peek_cases h with h | ⟨_, _, _, _, _, rfl, _⟩
 ·obtain ⟨_, _, _, _, _, _, _, _, rfl⟩ := cellsAt_some h
  simp
 ·simp
theorem Sim.peeks (h : Sim P φ A w) {a c : Addr} (hr : AR φ a c) {n : Nat} {vs : List Value} (hv : A.peek a n = some vs) :
  ∃ us : List Value, (loadCells c n).run P w = .ok us.toArray w ∧ Rs φ vs us ∧ us.length = n ∧ ∀ i u, us[i]? = some u → w.cell? (c.add i) = some u := by
 rcases peek_cases hv with hv | ⟨r, p, hg, hsp, hlen, rfl, hnh⟩
 ·exact h.loads hr hv
 obtain ⟨ex, o', _, ho, hs, hc, rfl, arr, e, fz, rfl, hal, hp⟩ := h.liveA hr hg
 have hspc : c.spot = none := by rw [← hs]; exact hsp
 have hall : ∀ i u, ((arr.toList.drop c.off).take n)[i]? = some u → w.cell? (c.add i) = some u := by
  intro i u hu
  obtain ⟨h1, _⟩ := take_drop_get hu
  rw [add_eq hspc]
  unfold World.cell?
  simp only [hc]
  simpa using h1
 have hl : ((arr.toList.drop c.off).take n).length = n := by
  simp only [List.length_take, List.length_drop]
  omega
 refine ⟨(arr.toList.drop c.off).take n, ?_, ?_, hl, hall⟩
 ·have := run_loadCells_list (P := P) w c ((arr.toList.drop c.off).take n) hall
  rwa [hl] at this
 ·refine ⟨by rw [hl, List.length_take, List.length_drop]; omega, fun i x y hx hy => ?_⟩
  have hn := List.all_eq_true.1 hnh x (List.mem_of_getElem? hx)
  obtain ⟨g1, _⟩ := take_drop_get hx
  obtain ⟨g2, _⟩ := take_drop_get hy
  rw [ho] at g1
  exact hp _ x y g1 hn g2
def Sh.isCell : Sh → Bool
 | .cell _ => true
 | _ => false
theorem ofCells_inj {s : Sh} {vs : List Value} {x : s.T} (h : s.ofCells vs = some x) : (s.isCell = false ∧ s.inj x = .agg ⟨vs⟩) ∨ (s.isCell = true ∧ vs = [s.inj x]) := by
 cases s with
 | cell c =>
  right
  match vs, h with
  | [v], h => exact ⟨rfl, by simp only [Sh.inj]; rw [Cell.inj_prj h]⟩
  | [], h => cases h
  | _ :: _ :: _, h => cases h
 | agg l => exact .inl ⟨rfl, congrArg (fun l => Value.agg ⟨l⟩) (cellsInj_prj h)⟩
 | raw => have := Option.some.inj h; subst this; exact .inl ⟨rfl, rfl⟩
theorem shT_isCell (P : Program) (t : TypeId) : (shT P t).isCell = !isAggT P t := by
 unfold shT
 cases isAggT P t
 ·rfl
 ·cases Nat.ble ((sizeT P t).getD 0) 24 <;> rfl
theorem shT_inj {t : TypeId} {vs : List Value} {x : (shT P t).T} (h : (shT P t).ofCells vs = some x) :
  (isAggT P t = true ∧ (shT P t).inj x = .agg ⟨vs⟩) ∨ (isAggT P t = false ∧ vs = [(shT P t).inj x]) := by
 have := shT_isCell P t
 rcases ofCells_inj h with ⟨h1, h2⟩ | ⟨h1, h2⟩
 ·rw [h1] at this; exact .inl ⟨by simpa using this.symm, h2⟩
 ·rw [h1] at this; exact .inr ⟨by simpa using this.symm, h2⟩
theorem load_sound {t : TypeId} {n : Nat} {a c : Addr} {K : Value → M ρ} (h : M.load (shT P t) n a (fun x => K ((shT P t).inj x)) A = r) (hr : r ≠ .stuck) (hs : Sim P φ A w) (hac : AR φ a c) (hn : sizeT P t = some n) :
  ∃ v v', r = K v A ∧ (loadVar t c).run P w = .ok v' w ∧ VR φ v v' := by
 unfold M.load at h
 cases hx : (A.peek a n).bind (shT P t).ofCells with
 | none => rw [hx] at h; exact absurd h.symm hr
 | some x =>
  rw [hx] at h
  obtain ⟨vs, hv, hx⟩ := Option.bind_eq_some_iff.1 hx
  obtain ⟨us, h1, h2, h3, h4⟩ := hs.peeks hac hv
  rcases shT_inj hx with ⟨hb, hi⟩ | ⟨hb, hi⟩
  ·refine ⟨_, .agg us.toArray, h.symm, by simp [loadVar, run_isAgg hn, hb, run_size hn, h1], ?_⟩
   rw [hi]; exact Rs.toAgg h2 _ rfl
  ·rw [hi] at h2
   obtain ⟨u, k, rfl, hu, hk⟩ := h2.cons_inv
   obtain rfl := hk.nil_inv
   refine ⟨_, u, h.symm, ?_, hu⟩
   have hc := h4 0 u rfl
   have hc' : w.cell? c = some u := by
    rw [← hc]; unfold Addr.add; simp
   simp [loadVar, run_isAgg hn, hb, hc']
theorem store_sound {t : TypeId} {n : Nat} {a c : Addr} {v u : Value} {K : M ρ} (h : (cond (Nat.beq v.cells.toList.length n) (M.store a v.cells.toList K) M.stuck) A = r) (hr : r ≠ .stuck) (hs : Sim P φ A w) (hac : AR φ a c)
  (hn : sizeT P t = some n) (hv : VR φ v u) : ∃ A' w', r = K A' ∧ (storeVar t c u).run P w = .ok () w' ∧ Sim P φ A' w' ∧ Onw φ A w φ A' w' := by
 obtain ⟨hl, h⟩ := condM_ok h hr
 have hl := Nat.eq_of_beq_eq_true hl
 unfold M.store at h
 cases hx : A.store a v.cells.toList with
 | none => rw [hx] at h; exact absurd h.symm hr
 | some A' =>
  rw [hx] at h
  obtain ⟨w', h1, h2, h3⟩ := hs.stores hac hx hv.cells
  have hsz : u.cells.size = n := by have := hv.cells.1; simp at this hl; omega
  exact ⟨A', w', h.symm, by simp [storeVar, run_size hn, hsz, h1], h2, h3⟩
theorem alloc_sound {e : TypeId} {z : Value} {K : Value → M ρ} (h : (M.new (.cells (Row.ofList z.cells.toList) e false (0, 0) false) fun b => K (.pointer (some ⟨b, 0, none⟩))) A = r) (hs : Sim P φ A w)
  (hz : zeroT P e = some z) (hp : plain z = true) : DoesV P φ A w r K (Instr.alloc e true (.tuple #[])) := by
 obtain ⟨φ', k1, k2, k3⟩ := hs.newRow (w' := { w with heap := w.heap.push (.cells z.cells e (0, 0)) }) (by rw [Row.ofList_list]; exact plain_cells φ hp) e false rfl
 exact ⟨_, _, φ', _, .pointer (some ⟨w.heap.size, 0, none⟩), h.symm, by simp [Instr.alloc, run_zero hz, newVar, newRow, newObj, Sem.run], k2, .ptr (AR.new k1), k3⟩
theorem box_sound {e : TypeId} {v u : Value} {K : Value → M ρ} (h : (M.new (.cells (Row.ofList v.cells.toList) e false (0, 0) false) fun b => K (.pointer (some ⟨b, 0, none⟩))) A = r) (hs : Sim P φ A w)
  (hv : VR φ v u) : DoesV P φ A w r K (Instr.box e u) := by
 obtain ⟨φ', k1, k2, k3⟩ := hs.newRow (w' := { w with heap := w.heap.push (.cells u.cells e (0, 0)) }) (by rw [Row.ofList_list]; exact hv.cells) e false rfl
 exact ⟨_, _, φ', _, .pointer (some ⟨w.heap.size, 0, none⟩), h.symm, by simp [Instr.box, newVar, newRow, newObj, Sem.run], k2, .ptr (AR.new k1), k3⟩
theorem repeatA_length (zs : List Value) : ∀ n, (repeatA zs n).length = n * zs.length
 | 0 => by simp [Row.repL]
 | n + 1 => by
  have := repeatA_length zs n
  simp only [Row.repL, List.length_append, this, Nat.succ_mul]
  omega
theorem repeatA_get (zs : List Value) : ∀ (n i : Nat), i < n * zs.length → (repeatA zs n)[i]? = zs[i % zs.length]?
 | 0, i, h => by simp at h
 | n + 1, i, h => by
  simp only [Row.repL, List.getElem?_append]
  by_cases hi : i < zs.length
  ·rw [if_pos hi, Nat.mod_eq_of_lt hi]
  ·rw [if_neg hi, repeatA_get zs n (i - zs.length) (by rw [Nat.succ_mul] at h; omega), Nat.mod_eq_sub_mod (a := i) (by omega)]
theorem range_repeat (z : Value) (n : Nat) (h1 : 1 ≤ z.cells.toList.length) : ((Array.range (n * z.cells.toList.length)).map (z.cells[· % z.cells.size]!)).toList = repeatA z.cells.toList n := by
 apply List.ext_getElem?
 intro i
 have hz : z.cells.size = z.cells.toList.length := by simp
 by_cases hi : i < n * z.cells.toList.length
 ·rw [repeatA_get _ _ _ hi]
  have hm : i % z.cells.toList.length < z.cells.toList.length := Nat.mod_lt _ (by omega)
  have hm' : i % z.cells.size < z.cells.size := by rw [hz]; exact hm
  simp only [Array.toList_map, List.getElem?_map, Array.toList_range, List.getElem?_range hi, Option.map_some]
  rw [List.getElem?_eq_getElem hm]
  congr 1
  simp only [Array.getElem_toList, hz]
  rw [getElem!_pos z.cells _ hm]
 ·rw [List.getElem?_eq_none (l := repeatA _ _) (by rw [repeatA_length]; omega), List.getElem?_eq_none (by simp at hi ⊢; omega)]
theorem repeatA_Rs {z : Value} (hz : plain z = true) (φ : Phi) : ∀ n, Rs φ (repeatA z.cells.toList n) (repeatA z.cells.toList n)
 | 0 => Rs.nil
 | n + 1 => (plain_cells φ hz).append (repeatA_Rs hz φ n)
theorem row_zero {s n : Nat} {z : Value} (hl : z.cells.toList.length = s) (h1 : 1 ≤ s) (hp : plain z = true) :
  ∃ arr : Array Value, (n * s = 0 → (Array.range (n * s)).map ((#[] : Array Value)[· % (#[] : Array Value).size]!) = arr) ∧ (n * s ≠ 0 → (Array.range (n * s)).map (z.cells[· % z.cells.size]!) = arr) ∧ Rs φ (repeatA z.cells.toList n) arr.toList := by
 by_cases hn : n * s = 0
 ·refine ⟨#[], fun _ => by simp [hn], fun h => absurd hn h, ?_⟩
  have : n = 0 := by
   rcases Nat.mul_eq_zero.1 hn with h | h
   ·exact h
   ·omega
  subst this
  exact Rs.nil
 ·refine ⟨(repeatA z.cells.toList n).toArray, fun h => absurd h hn, fun _ => ?_, repeatA_Rs hp φ n⟩
  have := range_repeat z n (by omega)
  rw [hl] at this
  apply Array.ext'
  rw [this]
theorem aBuildSlice_sound {t : TypeId} {len : Nat} {ps qs : List (Nat × Value)} {K : Value → M ρ} (h : aBuildSlice P t len ps K A = r) (hr : r ≠ .stuck) (hs : Sim P φ A w) (hp : PsR φ ps qs)
  (hz : ∀ e z, P.underlying t = some (.slice e) → zeroT P e = some z → plain z = true) : DoesV P φ A w r K (Instr.buildSlice t len qs.toArray) := by
 unfold aBuildSlice at h
 cases hu : P.underlying t with
 | none => rw [hu] at h; exact stuck_ok (A := A) h hr
 | some d =>
  rw [hu] at h
  cases d with
  | slice e =>
   simp only at h
   cases hn : sizeT P e with
   | none => rw [hn] at h; exact stuck_ok (A := A) h hr
   | some s =>
    rw [hn] at h
    cases hzt : zeroT P e with
    | none => rw [hzt] at h; exact stuck_ok (A := A) h hr
    | some z =>
     rw [hzt] at h
     simp only at h
     obtain ⟨hc, h⟩ := condM_ok h hr
     simp only [Bool.and_eq_true, ble_iff] at hc
     obtain ⟨⟨h24, hl⟩, h1⟩ := hc
     have hl := Nat.eq_of_beq_eq_true hl
     obtain ⟨cs, hcs, h⟩ := need_ok h hr
     obtain ⟨arr, z1, z2, z3⟩ := row_zero (φ := φ) (n := len) hl h1 (hz e z hu hzt)
     obtain ⟨ds, f1, f2⟩ := fill_sound hcs z3 hp
     obtain ⟨φ', k1, k2, k3⟩ := hs.newRow (w' := { w with heap := w.heap.push (.cells ds e (0, 0)) }) (by rw [Row.ofList_list]; exact f2) e false rfl
     refine ⟨_, _, φ', _, .slice (some ⟨w.heap.size, 0, none⟩) len len, h.symm, ?_, k2, .slice _ (SR.new k1 (Nat.le_refl _) rfl), k3⟩
     have h24' : ¬ (len * s > 2 ^ 24) := by omega
     by_cases h0 : len * s = 0
     ·have z1 := z1 h0
      simp only [Instr.buildSlice, Sem.run_bind, run_und hu, Result.andThen_ok, run_size hn, if_neg h24', if_pos h0, z1, f1, newRow, newObj, Sem.run, Sem.run_pure]
     ·have z2 := z2 h0
      simp only [Instr.buildSlice, Sem.run_bind, run_und hu, Result.andThen_ok, run_size hn, if_neg h24', if_neg h0, run_zero hzt, z2, f1, newRow, newObj, Sem.run, Sem.run_pure]
  | _ => exact stuck_ok (A := A) h hr
theorem wrap64_of {n : Int} (h1 : -9223372036854775808 ≤ n) (h2 : n ≤ 9223372036854775807) : IntKind.i64.wrap n = n := by
 simp only [IntKind.wrap, IntKind.bits, IntKind.signed, Bool.true_and, decide_eq_true_eq, ge_iff_le]
 split <;> omega
theorem run_askRoom' (n : Nat) : (askRoom n).run P w = .ok () w := by unfold askRoom; split <;> rfl
theorem aMakeSlice_sound {t : TypeId} {vl vc ul uc : Value} {K : Value → M ρ} (h : aMakeSlice P t vl vc K A = r) (hr : r ≠ .stuck) (hs : Sim P φ A w) (hvl : VR φ vl ul) (hvc : VR φ vc uc)
  (hz : ∀ e z, P.underlying t = some (.slice e) → zeroT P e = some z → plain z = true) : DoesV P φ A w r K (Instr.makeSlice t ul uc) := by
 unfold aMakeSlice at h
 cases hu : P.underlying t with
 | none => rw [hu] at h; exact stuck_ok (A := A) h hr
 | some d =>
  rw [hu] at h
  cases d with
  | slice e =>
   simp only at h
   cases hn : sizeT P e with
   | none => rw [hn] at h; exact stuck_ok (A := A) h hr
   | some s =>
    rw [hn] at h
    cases hb : bytesT P e with
    | none => rw [hb] at h; exact stuck_ok (A := A) h hr
    | some bytes =>
     rw [hb] at h
     cases hzt : zeroT P e with
     | none => rw [hzt] at h; exact stuck_ok (A := A) h hr
     | some z =>
      rw [hzt] at h
      cases hvl with
      | int kl l =>
       cases hvc with
       | int kc c =>
        simp only at h
        obtain ⟨hc, h⟩ := guard_ok h hr
        simp only [Bool.and_eq_true, ble_iff, decide_eq_true_eq] at hc
        obtain ⟨⟨⟨⟨⟨hb1, hl⟩, h1⟩, hl0⟩, hlc⟩, h48⟩ := hc
        have hl := Nat.eq_of_beq_eq_true hl
        obtain ⟨i, hi, hib⟩ := bytesT_some hb
        have hc48 : c ≤ 2 ^ 48 := by
         have : (1 : Int) * c ≤ (bytes : Int) * c := Int.mul_le_mul_of_nonneg_right (by omega) (by omega)
         omega
        have wl : IntKind.i64.wrap l = l := wrap64_of (by omega) (by omega)
        have wc : IntKind.i64.wrap c = c := wrap64_of (by omega) (by omega)
        obtain ⟨arr, z1, z2, z3⟩ := row_zero (φ := φ) (n := c.toNat) hl h1 (hz e z hu hzt)
        obtain ⟨φ', k1, k2, k3⟩ := hs.newRow (cs := Row.rep z.cells.toList c.toNat) (w' := { w with heap := w.heap.push (.cells arr e (0, 0)) }) (by rw [Row.rep_list _ _]; exact z3) e false rfl
        refine ⟨_, _, φ', _, .slice (some ⟨w.heap.size, 0, none⟩) l.toNat c.toNat, h.symm, ?_, k2, .slice _ (SR.new k1 (by omega) rfl), k3⟩
        have hneg : (decide (c < 0) || decide ((i.bytes : Int) * c > 2 ^ 48) || decide (l < 0) || decide (l > c)) = false := by
         rw [hib]; simp only [Bool.or_eq_false_iff, decide_eq_false_iff_not]; omega
        by_cases h0 : c.toNat * s = 0
        ·have z1 := z1 h0
         simp only [Instr.makeSlice, Sem.run_bind, run_und hu, Result.andThen_ok, asInt, asIntOf, Sem.run_pure, run_info hi, wl, wc, hneg, Bool.false_eq_true, if_false, run_askRoom', run_size hn, if_pos h0, z1, newRow, newObj, Sem.run]
        ·have z2 := z2 h0
         simp only [Instr.makeSlice, Sem.run_bind, run_und hu, Result.andThen_ok, asInt, asIntOf, Sem.run_pure, run_info hi, wl, wc, hneg, Bool.false_eq_true, if_false, run_askRoom', run_size hn, if_neg h0, run_zero hzt, z2, newRow, newObj, Sem.run]
       | _ => exact stuck_ok (A := A) h hr
      | _ => exact stuck_ok (A := A) h hr
  | _ => exact stuck_ok (A := A) h hr
end Go.Eng
