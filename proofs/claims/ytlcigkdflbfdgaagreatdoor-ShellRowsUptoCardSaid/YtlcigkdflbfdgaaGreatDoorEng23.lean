/-
 The engine, part 23: what a function of the program comes to over an abstract heap; each part is proved against the model.
-/
import Derived.Test.YtlcigkdflbfdgaaGreatDoorEng22
namespace Go.Eng
open Go
section
variable {C : Cfg} {I : Interp} {φ : Phi} {A : AW} {ρ : Type} {r : Res ρ} {w : World} {ro : Option Nat} {P : Program} {a : Act} {o : Oper} {D : DInv} {df : Bool}
theorem look_drop {mods : List Nat} : ∀ {l : Slots} {t : Nat} {v : Value}, look t (drop mods l) = some v → look t l = some v ∧ t ∉ mods
 | [], t, v, h => by simp [drop, look] at h
 | (u, x) :: l, t, v, h => by
  simp only [drop] at h
  cases hm : mods.any (Nat.beq u) with
  | true =>
   rw [hm] at h
   simp only [cond_true] at h
   obtain ⟨h1, h2⟩ := look_drop h
   refine ⟨?_, h2⟩
   rw [look_cons]
   have : u ≠ t := fun e => h2 (by subst e; exact elemB_iff.1 hm)
   rw [if_neg this]; exact h1
  | false =>
   rw [hm] at h
   simp only [cond_false, look_cons] at h
   by_cases e : u = t
   ·subst e
    rw [if_pos rfl] at h
    refine ⟨by rw [look_cons, if_pos rfl]; exact h, fun hmem => ?_⟩
    have : mods.any (Nat.beq u) = true := elemB_iff.2 hmem
    rw [hm] at this; cases this
   ·rw [if_neg e] at h
    obtain ⟨h1, h2⟩ := look_drop h
    exact ⟨by rw [look_cons, if_neg e]; exact h1, h2⟩
theorem look_slPut : ∀ {l : List (Nat × Sh)} {x : ShsT (l.map (·.2))} {e env : Slots} {t : Nat} {v : Value}, slTake l env = some x → look t (slPut l x e) = some v → look t env = some v ∨ look t e = some v
 | [], _, e, env, t, v, _, h => .inr h
 | (u, s) :: l, x, e, env, t, v, hx, h => by
  simp only [slTake] at hx
  split at hx
  ·rename_i y z hy hz
   obtain rfl := Option.some.inj hx
   simp only [slPut, look_cons] at h
   by_cases hu : u = t
   ·subst hu
    rw [if_pos rfl] at h
    obtain ⟨q, hq1, hq2⟩ := Option.bind_eq_some_iff.1 hy
    obtain rfl := Option.some.inj h
    left
    rw [Sh.inj_prj hq2]; exact hq1
   ·rw [if_neg hu] at h
    exact look_slPut hz h
  ·cases hx
def wr : Code → Nat → Prop
 | .region _ ops _ => wrOps ops
 | .seq a b => fun t => wr a t ∨ wr b t
 | .cond _ a b => fun t => wr a t ∨ wr b t
 | .block _ a => wr a
 | .loop a => wr a
 | _ => fun _ => False
theorem writesIn_wr {mods : List Nat} : ∀ {c : Code}, writesIn mods c = true → ∀ t, wr c t → t ∈ mods
 | .region i ops d, h, t, ⟨o, ho, hd⟩ => by
  have := List.all_eq_true.1 h o ho
  rw [hd] at this
  exact elemB_iff.1 this
 | .seq a b, h, t, hw => by
  simp only [writesIn, Bool.and_eq_true] at h
  rcases hw with hw | hw
  ·exact writesIn_wr h.1 t hw
  ·exact writesIn_wr h.2 t hw
 | .cond _ a b, h, t, hw => by
  simp only [writesIn, Bool.and_eq_true] at h
  rcases hw with hw | hw
  ·exact writesIn_wr h.1 t hw
  ·exact writesIn_wr h.2 t hw
 | .block _ a, h, t, hw => writesIn_wr (c := a) h t hw
 | .loop a, h, t, hw => writesIn_wr (c := a) h t hw
 | .skip, _, _, hw => hw.elim
 | .rangeFunc .., _, _, hw => hw.elim
 | .exit _, _, _, hw => hw.elim
 | .scope _, _, _, hw => hw.elim
 | .label _, _, _, hw => hw.elim
 | .goto _, _, _, hw => hw.elim
 | .ret, _, _, hw => hw.elim
theorem join_ok {φ' : Phi} {fr fr' : Fr} {a1 : Act} {W : Nat → Prop} {mods : List Nat} {sl : List (Nat × Sh)} {x : ShsT (sl.map (·.2))} (hf : FrOk P φ fr a) (hf' : FrOk P φ' fr' a1) (hl : Le φ φ') (hk : Kept W a a1)
  (hw : ∀ t, W t → t ∈ mods) (hx : slTake sl fr'.env = some x) : FrOk P φ' ⟨slPut sl x (drop mods fr.env)⟩ a1 := by
 refine ⟨fun t v hv => ?_, hf'.glob⟩
 rcases look_slPut hx hv with h | h
 ·exact hf'.env t v h
 ·obtain ⟨h1, h2⟩ := look_drop h
  obtain ⟨u, hu, hvu⟩ := hf.env t v h1
  exact ⟨u, by rw [hk.2 t (fun e => h2 (hw t e))]; exact hu, hvu.mono hl⟩
theorem Post.trans {φ1 : Phi} {A1 : AW} {w1 : World} {a1 : Act} {W V : Nat → Prop} {K : Exit → Fr → M ρ} (ho : Onw φ A w φ1 A1 w1) (hk : Kept V a a1) (hw : ∀ t, W t → V t) :
  ∀ e a2 w2, Post df D P φ1 A1 w1 a1 W r K e a2 w2 → Post df D P φ A w a V r K e a2 w2 := by
 rintro e a2 w2 (⟨φ', A', h1, h2, h3, h4⟩ | ⟨hdf, u, hu, hp⟩)
 rotate_left
 ·exact .inr ⟨hdf, u, hu, fun fn R H => hp fn R fun φ' A' w' u' ds k1 k2 => H φ' A' w' u' ds k1 (ho.trans k2)⟩
 refine .inl ⟨φ', A', h1, ho.trans h2, h3, ?_⟩
 rcases h4 with ⟨e', fr', g1, g2, g3, g4⟩ | h4
 ·exact .inl ⟨e', fr', g1, g2, g3, hk.trans (g4.weaken hw)⟩
 ·obtain ⟨v, u, g1, g2, g3, g4⟩ := h4
  exact .inr ⟨v, u, g1, g2, g3, hk.trans (g4.weaken hw)⟩
theorem evRegion_sound (hC : COk C) (hI : IOk C.P I) {id : Nat} {ops : Array Oper} {draw : Bool} {fr : Fr} {K : Fr → M ρ} (hb : ∀ o ∈ ops.toList, ∀ d, o.dst = some d → d < a.tmps.size)
  (hD : Stays D) (h : evRegion C I ops.toList draw fr K A = r) (hr : r ≠ .stuck) (hs : Sim C.P φ A w) (hf : FrOk C.P φ fr a) (hm : D φ w a.defers) :
  (Code.region id ops draw).wpIn (Fw ro) 0 C.P (RPost D C.P φ A w a (wrOps ops) r K) a w := by
 unfold evRegion at h
 cases draw with
 | false =>
  simp only [cond_false] at h
  refine wpIn_region ?_
  have := evSeq_sound (ro := ro) hC hI hD hb h hr hs hf hm
  rw [List.range_eq_range']
  simpa using this
 | true =>
  simp only [cond_true] at h
  obtain ⟨hso, h⟩ := condM_ok h hr
  exact evDraw_sound hC hI hD hb hso h hr hs hf hm
theorem exists_least (p : Nat → Prop) (h : ∃ n, p n) : ∃ n, p n ∧ ∀ m, p m → n ≤ m := by
 obtain ⟨n, hn⟩ := h
 induction n using Nat.strongRecOn with
 | _ n ih =>
  by_cases hc : ∃ m, m < n ∧ p m
  ·obtain ⟨m, hm, hp⟩ := hc; exact ih m hm hp
  ·exact ⟨n, hn, fun m hm => Nat.le_of_not_lt fun hlt => hc ⟨m, hlt, hm⟩⟩
theorem outTake_go {exits : List (Option Nat × List (Nat × Sh))} {e : Exit} {env : Slots} {o : OutT exits} (h : outTake exits e env = some o) (e0 : Slots) (K : Exit → Slots → M ρ) :
  ∃ l, ∃ x : ShsT (l.map (·.2)), slTake l env = some x ∧ outGo e0 K exits o = K e (slPut l x e0) := by
 induction exits with
 | nil => simp [outTake] at h
 | cons p exits ih =>
  obtain ⟨e', l⟩ := p
  simp only [outTake] at h
  cases hx : isExit e' e with
  | true =>
   rw [hx] at h
   simp only [cond_true] at h
   obtain ⟨x, hx1, rfl⟩ := Option.map_eq_some_iff.1 h
   refine ⟨l, x, hx1, ?_⟩
   simp only [outGo]
   unfold isExit at hx
   split at hx
   ·rfl
   ·rw [Nat.eq_of_beq_eq_true hx]; rfl
   ·cases hx
  | false =>
   rw [hx] at h
   simp only [cond_false] at h
   obtain ⟨o', ho', rfl⟩ := Option.map_eq_some_iff.1 h
   exact ih ho'
theorem boundOps {N : Nat} {id : Nat} {ops : Array Oper} {d : Bool} (h : boundIn N (.region id ops d) = true) (hN : N ≤ a.tmps.size) : ∀ o ∈ ops.toList, ∀ d, o.dst = some d → d < a.tmps.size := by
 intro o ho d hd
 have := List.all_eq_true.1 h o ho
 rw [hd] at this
 have h9 : Nat.blt d N = true := this
 have : d < N := by simpa using h9
 exact Nat.lt_of_lt_of_le this hN
theorem FrOk.setOp {fr : Fr} (h : FrOk P φ fr a) {x : Operand} {b : Bool} (hx : a.eval x = .bool b) (hx' : fr.eval P x = some (.bool b)) : FrOk P φ (fr.setOp x (.bool b)) a := by
 cases x with
 | tmp t =>
  refine ⟨fun u v hv => ?_, h.glob⟩
  simp only [Fr.setOp, Fr.set, look_cons] at hv
  by_cases e : t = u
  ·subst e
   rw [if_pos rfl] at hv
   obtain rfl := Option.some.inj hv
   exact h.env t _ hx'
  ·rw [if_neg e] at hv; exact h.env u v hv
 | _ => exact h
theorem leavesM {fn : Func} {tmps : Array Value} {R : Ending → World → Prop} {u : FrameMode} {φ' : Phi} {A' : AW} {tl : List Deferred} (hu : u ≠ .run)
  (fin : ∀ w2, Sim P φ' A' w2 → Onw φ A w φ' A' w2 → LeavesInM Fence.wide 0 P fn tmps R tl u w2) : ∀ (ds : List Deferred) (w1 : World), MarksOk w.heap.size φ' w1 ds → Sim P φ' A' w1 → Onw φ A w φ' A' w1 →
  LeavesInM Fence.wide 0 P fn tmps R (ds ++ tl) u w1
 | [], w1, _, hs, ho => fin w1 hs ho
 | d :: ds, w1, hm, hs, ho => by
  obtain ⟨r, h1, h2, h3, h4⟩ := hm.1 d (by simp)
  have hlt := (Array.getElem?_eq_some_iff.1 h3).1
  obtain ⟨w2, hw2⟩ : ∃ w2 : World, w2 = { w1 with heap := w1.heap.setIfInBounds r (.deferred none) } := ⟨_, rfl⟩
  have hsz : w2.heap.size = w1.heap.size := by rw [hw2]; simp
  have hne : ∀ c, c ≠ r → w2.heap[c]? = w1.heap[c]? := fun c hc => by rw [hw2]; simp [Ne.symm hc]
  have hs2 : Sim P φ' A' w2 := ⟨fun b c ex hb => by
   obtain ⟨x, y, k1, k2, k3⟩ := hs.obj b c ex hb
   exact ⟨x, y, k1, by rw [hne c (fun e => h4 b ex (e ▸ hb))]; exact k2, k3⟩, hs.inj, hs.bound, hs.dead, hs.fresh⟩
  have ho2 : Onw φ A w φ' A' w2 := ⟨ho.le, by rw [hsz]; exact ho.size, ho.next, fun c hc hn => by rw [hne c (by omega)]; exact ho.conc c hc hn, ho.range, ho.virt, ho.out.trans (by rw [hw2]; exact ⟨rfl, rfl, rfl⟩)⟩
  have hp := hm.2
  simp only [List.map_cons, List.pairwise_cons] at hp
  have hm2 : MarksOk w.heap.size φ' w2 ds := ⟨fun d' hd' => by
   obtain ⟨r', g1, g2, g3, g4⟩ := hm.1 d' (by simp [hd'])
   have : r' ≠ r := fun e => hp.1 d'.target (List.mem_map.2 ⟨d', hd', rfl⟩) r h1 (e ▸ g1)
   exact ⟨r', g1, g2, by rw [hne r' this]; exact g3, g4⟩, hp.2⟩
  refine ⟨hu, .inl ⟨r, w2, h1, ?_, leavesM hu fin ds w2 hm2 hs2 ho2⟩⟩
  simp only [Instr.takeDeferred, Sem.run_bind, getObj, Sem.run, h3, Result.andThen_ok, setObj, Sem.run_pure, hw2]
theorem pend_pass {W : Nat → Prop} {K K' : Exit → Fr → M ρ} {e : Go.Exit} {a1 : Act} {w1 : World} (hdf : df = true) (h : Pend D P φ A w r K' e a1 w1) (hK : ∀ fr, K' .ret fr = K .ret fr := by intro _; rfl) : Post df D P φ A w a W r K e a1 w1 := by
 obtain ⟨u, hu, hp⟩ := h
 refine .inr ⟨hdf, u, hu, fun fn R H => hp fn R fun φ' A' w' u' ds k1 k2 k3 k4 => H φ' A' w' u' ds k1 k2 k3 ?_⟩
 rcases k4 with ⟨g1, fr', g2, g3⟩ | k4
 ·exact .inl ⟨g1, fr', by rw [g2, hK], g3⟩
 ·exact .inr k4
theorem lastOp_some : ∀ {ops l : List Oper} {o : Oper}, lastOp ops = some (l, o) → ops = l ++ [o]
 | [], _, _, h => by cases h
 | [x], l, o, h => by
  simp only [lastOp, Option.some.injEq, Prod.mk.injEq] at h
  obtain ⟨rfl, rfl⟩ := h
  rfl
 | x :: y :: ops, l, o, h => by
  simp only [lastOp, Option.map_eq_some_iff] at h
  obtain ⟨⟨l', o'⟩, h1, h2⟩ := h
  simp only [Prod.mk.injEq] at h2
  obtain ⟨rfl, rfl⟩ := h2
  rw [lastOp_some h1]; rfl
theorem deferParts_some {x : Code} {all l : List Oper} {c : Call} (h : deferParts x = some (all, l, c)) : ∃ id ops o, x = .region id ops false ∧ all = ops.toList ∧ ops.toList = l ++ [o] ∧ o.op = .defer c ∧ o.guard = none ∧ o.dst = none := by
 unfold deferParts at h
 split at h
 ·rename_i id ops
  split at h
  ·rename_i l' o hl
   split at h
   ·rename_i c' h1 h2 h3
    simp only [Option.some.injEq, Prod.mk.injEq] at h
    obtain ⟨rfl, rfl, rfl⟩ := h
    exact ⟨id, ops, o, rfl, rfl, lastOp_some hl, h1, h2, h3⟩
   ·cases h
  ·cases h
 ·cases h
theorem bindP_some {σ : Type} {m : M σ} {k : σ → M ρ} {hh : Value → M ρ} (h : M.bindP m k hh A = r) (hr : r ≠ .stuck) : (∃ x A', m A = .ok x A' ∧ k x A' = r) ∨ (∃ v A', m A = .panic v A' ∧ hh v A' = r) := by
 unfold M.bindP at h
 cases hm : m A with
 | stuck => rw [hm] at h; exact absurd h.symm hr
 | ok x A' => rw [hm] at h; exact .inl ⟨x, A', rfl, h⟩
 | panic v A' => rw [hm] at h; exact .inr ⟨v, A', rfl, h⟩
theorem bindP_ok {σ : Type} {m : M σ} {k : σ → M ρ} (h : M.bindP m k (fun _ => M.stuck) A = r) (hr : r ≠ .stuck) : ∃ x A', m A = .ok x A' ∧ k x A' = r := by
 rcases bindP_some h hr with h | ⟨v, A', _, h⟩
 ·exact h
 ·exact absurd h.symm hr
theorem defer_sound (hC : COk C) (hI : IOk C.P I) {N : Nat} {rd : Bool} (hrd : rd = false → ro = none) {x y : Code} {mods : List Nat} {fr : Fr} {K : Exit → Fr → M ρ} {my : Fr → M Unit} (hD : Stays D) (hbx : boundIn N x = true) (hN : N ≤ a.tmps.size)
  (h : (match deferParts x with
   | some (all, l, c) => cond (!rd && df && writesIn mods y)
     (evSeq C I all (fun fr' => M.need (evDeferred C fr' c) fun d => M.afterDefer (my fr') (fun rc => I.call (.deferred d.1 d.2 rc)) (K .ret ⟨drop mods fr'.env⟩)) l fr) M.stuck
   | none => M.stuck) A = r) (hr : r ≠ .stuck) (hs : Sim C.P φ A w) (hf : FrOk C.P φ fr a) (hm : D φ w a.defers)
  (ihy : ∀ (φ' : Phi) (A' : AW) (w' : World) (a' : Act) (r' : Res Unit) (fr' : Fr) (D' : DInv), Stays D' → (rd = false → Marks D') → N ≤ a'.tmps.size → my fr' A' = r' → r' ≠ .stuck → Sim C.P φ' A' w' → FrOk C.P φ' fr' a' → D' φ' w' a'.defers →
   y.wpIn (Fw ro) 0 C.P (Post false D' C.P φ' A' w' a' (wr y) r' retOnly) a' w') :
  (Code.seq x y).wpIn (Fw ro) 0 C.P (Post df D C.P φ A w a (wr (.seq x y)) r K) a w := by
 cases hp : deferParts x with
 | none => rw [hp] at h; exact stuck_ok (A := A) h hr
 | some q =>
  obtain ⟨all, l, c⟩ := q
  rw [hp] at h
  simp only at h
  obtain ⟨hc, h⟩ := condM_ok h hr
  simp only [Bool.and_eq_true, Bool.not_eq_true'] at hc
  obtain ⟨⟨hrd0, hdf⟩, hw⟩ := hc
  have hro := hrd hrd0
  subst hro
  obtain ⟨id, ops, o, rfl, rfl, hl, ho1, ho2, ho3⟩ := deferParts_some hp
  have hsz : ops.size = l.length + 1 := by rw [← Array.length_toList, hl]; simp
  refine wpIn_seq (wpIn_region ?_)
  rw [List.range_eq_range', hsz]
  refine evSeq_to (tl := [o]) hC hI hD (boundOps hbx hN) l 0 fr φ A w a (by rw [List.drop_zero, hl]) h hr hs hf (Onw.refl _ _ _) (Kept.refl _ _) hm (fun fr' φ' A' w' a' k1 k2 k3 k4 k5 k6 => ?_) (fun φ' A' w' a' v u k1 k2 k3 k4 k5 k6 => ?_)
  ·obtain ⟨d, hd, k1⟩ := need_ok k1 hr
   obtain ⟨g, dargs⟩ := d
   unfold evDeferred at hd
   split at hd
   ·rename_i f args hcal hargs
    split at hd
    ·rename_i g' first captured hfv
     obtain ⟨hbody, hd⟩ := cond_some hd
     simp only [Option.some.injEq, Prod.mk.injEq] at hd
     obtain ⟨rfl, rfl⟩ := hd
     have hgv := k3.eval hfv
     generalize hug : a'.eval f = ug at hgv
     cases hgv with
     | @func _ g2 _ _ first' capt' hfg ha1 hac hb1 hbd =>
      cases g2 with
      | func g2 =>
       obtain rfl : g' = g2 := hfg
       have har := k3.evals hargs
       obtain ⟨cc, hcc⟩ := Option.isSome_iff_exists.1 hbody
       obtain ⟨fnn, hfn, hbo⟩ := Option.bind_eq_some_iff.1 hcc
       have hname := hC.name g' fnn hfn (by rw [hbo]; rfl)
       obtain ⟨dd, hdd⟩ : ∃ dd : Deferred, dd = { target := .fn (.func g') capt', args := first' ++ c.args.map a'.eval } := ⟨_, rfl⟩
       have hidx : ops[0 + l.length]? = some o := by
        have : ops.toList[0 + l.length]? = some o := by rw [hl]; simp
        simpa using this
       have hexec : (execOp a'.eval o).run C.P w' = .ok (.defer dd) w' := by
        unfold execOp
        rw [ho1]
        simp only [resolve, hcal, hug, Deferred.ofValue, Sem.run_bind, Sem.run_pure, Result.andThen_ok, hdd]
       have hrs : Rs φ' (first.toList ++ args ++ captured.toList) (first'.toList ++ c.args.toList.map a'.eval ++ capt'.toList) := (Rs.append ⟨ha1, hac⟩ har).append ⟨hb1, hbd⟩
       have hinv : ∀ w2, (invoke dd.target dd.args).run C.P w2 = .ok (.enter g' (first'.toList ++ c.args.toList.map a'.eval ++ capt'.toList).toArray) w2 := by
        intro w2
        have harr : (first'.toList ++ c.args.toList.map a'.eval ++ capt'.toList).toArray = first' ++ c.args.map a'.eval ++ capt' := by apply Array.ext'; simp
        rw [harr, hdd]
        simp only [invoke, callFunc, Sem.run_bind, run_program, Result.andThen_ok, hfn, hname, Bool.false_eq_true, if_false, hbo, Option.isNone_some, Sem.run_pure]
       rw [show List.range' (0 + l.length) [o].length = [0 + l.length] from rfl, wpOpsIn_cons]
       unfold wpOpIn
       rw [hidx]
       simp only
       have hwant : Region.wanted o (yielded ops a'.tmps) = true := by simp [Region.wanted, ho2]
       rw [if_pos hwant]
       refine ⟨fun _ _ => trivial, ?_⟩
       rw [show (Fw none).round = none from rfl, Oper.semAt_none, hexec, Oper.uponIn_defer]
       simp only [wpOpsIn, ho3, Act.put]
       have hmy : my fr' A' ≠ .stuck := fun e => by
        unfold M.afterDefer M.bindP at k1
        rw [e] at k1
        exact hr k1.symm
       have hfr' : FrOk C.P φ' fr' { a' with defers := dd :: a'.defers } := ⟨k3.env, k3.glob⟩
       refine wpIn_mono (ihy φ' A' w' { a' with defers := dd :: a'.defers } _ fr' (marksD w'.heap.size (dd :: a'.defers)) (marksD_stays _ _) (fun _ => marksD_marks _ _) (by rw [k5.1]; exact hN) rfl hmy k2 hfr' (marksD_nil _ (Nat.le_refl _))) ?_
       rintro e a1 w1 (⟨φ1, A1, h1, h2, ⟨ms, hms, _, hmk⟩, h4⟩ | ⟨hx, _⟩)
       rotate_left
       ·cases hx
       have go : ∀ (rc : Option Value) (u : FrameMode), ModeOk φ1 rc u → Kept (wr y) { a' with defers := dd :: a'.defers } a1 →
         (∃ x A2, I.call (.deferred g' (first.toList ++ args ++ captured.toList) rc) A1 = .ok x A2 ∧ ((u = .returning ∧ K .ret ⟨drop mods fr'.env⟩ A2 = r) ∨ ∃ v z, rc = some v ∧ u = .panicking [{ v := z, recovered := false }] ∧ M.deferBack v (K .ret ⟨drop mods fr'.env⟩) x A2 = r)) →
         ∀ fn R, (∀ φ' A' w' u' ds, Sim C.P φ' A' w' → Onw φ A w φ' A' w' → D φ' w' ds →
          ((u' = .returning ∧ ∃ fr', r = K .ret fr' A' ∧ FrOk C.P φ' fr' a1) ∨ (∃ v x, u' = .panicking [{ v := x, recovered := false }] ∧ VR φ' v x ∧ r = .panic v A')) → LeavesInM Fence.wide 0 C.P fn a1.tmps R ds u' w') →
          LeavesInM Fence.wide 0 C.P fn a1.tmps R a1.defers u w1 := by
        intro rc u hmode hkept hcall fn R H
        obtain ⟨x, A2, hcx, hback⟩ := hcall
        have hurun : u ≠ .run := by
         rcases hback with ⟨rfl, _⟩ | ⟨v, z, _, rfl, _⟩ <;> simp
        rw [hms]
        refine leavesM hurun (fun w2 s2 o2 => ?_) ms w1 hmk h1 h2
        refine ⟨hurun, .inr ⟨fun e => by simp [Fence.wide] at e, .func g', capt', g', _, by rw [hdd], hinv w2, fun _ _ => trivial, ?_⟩⟩
        refine CallsDIn.mono (hI.callD _ _ rc x A1 A2 hcx φ1 w2 _ u (k3.glob.mono h2.le) s2 (hrs.mono h2.le) hmode) ?_
        rintro e u' w3 ⟨yv, b, φ2, rfl, rfl, s3, o3, hu'⟩
        simp only
        have hon : Onw φ A w φ2 A2 w3 := k4.trans (o2.trans o3)
        have hfrz : FrOk C.P φ2 ⟨drop mods fr'.env⟩ a1 := by
         refine ⟨fun t v hv => ?_, k3.glob.mono (o2.trans o3).le⟩
         obtain ⟨q1, q2⟩ := look_drop hv
         obtain ⟨z, hz, hvz⟩ := k3.env t v q1
         exact ⟨z, by rw [hkept.2 t (fun e => q2 (writesIn_wr hw t e))]; exact hz, hvz.mono (o2.trans o3).le⟩
        have hDs := hD.onw k6 (o2.trans o3)
        rcases hback with ⟨rfl, hK⟩ | ⟨v, z, rfl, rfl, hK⟩
        ·rcases hu' with ⟨_, rfl⟩ | ⟨_, z, hz, _⟩
         ·exact H φ2 A2 w3 .returning a'.defers s3 hon hDs (.inl ⟨rfl, _, hK.symm, hfrz⟩)
         ·cases hz
        ·rcases hu' with ⟨rfl, rfl⟩ | ⟨rfl, z', hz, rfl⟩
         ·obtain ⟨z', hvz, hz'⟩ := hmode
          cases hz'
          exact H φ2 A2 w3 _ a'.defers s3 hon hDs (.inr ⟨v, _, rfl, hvz.mono o3.le, hK.symm⟩)
         ·exact H φ2 A2 w3 .returning a'.defers s3 hon hDs (.inl ⟨rfl, _, hK.symm, hfrz⟩)
       rcases h4 with ⟨e', fr1, g1, g2, g3, g4⟩ | ⟨v, u, rfl, g1, g2, g3⟩
       ·cases e' <;> cases e <;> first | exact g1.elim | exact absurd g2 hmy | skip
        have g2 : my fr' A' = .ok () A1 := g2
        unfold M.afterDefer M.bindP at k1
        rw [g2] at k1
        obtain ⟨x, A2, q1, q2⟩ := bindP_ok k1 hr
        exact .inr ⟨hdf, .returning, .inl ⟨rfl, rfl⟩, go none .returning rfl g4 ⟨x, A2, q1, .inl ⟨rfl, q2⟩⟩⟩
       ·unfold M.afterDefer M.bindP at k1
        rw [g2] at k1
        obtain ⟨x, A2, q1, q2⟩ := bindP_ok k1 hr
        exact .inr ⟨hdf, _, .inr ⟨_, rfl, rfl⟩, go (some v) _ ⟨u, g1, rfl⟩ g3 ⟨x, A2, q1, .inr ⟨v, u, rfl, rfl, q2⟩⟩⟩
      | _ => exact hfg.elim
    ·cases hd
   ·cases hd
  ·exact .inl ⟨φ', A', k1, k2, k3, .inr ⟨v, u, rfl, k4, k5, k6.weaken fun t ht => .inl ht⟩⟩
theorem evCode_sound (hC : COk C) (hI : IOk C.P I) {N : Nat} {rd : Bool} (hrd : rd = false → ro = none) : ∀ (c : Code) (D : DInv) (df : Bool) (ann : Ann) (ρ : Type) (fr : Fr) (K : Exit → Fr → M ρ) (φ : Phi) (A : AW) (w : World) (a : Act) (r : Res ρ), Stays D → (rd = false → Marks D) →
  boundIn N c = true → N ≤ a.tmps.size → evCode C I N rd c df ann ρ fr K A = r → r ≠ .stuck → Sim C.P φ A w → FrOk C.P φ fr a → D φ w a.defers →
  c.wpIn (Fw ro) 0 C.P (Post df D C.P φ A w a (wr c) r K) a w := by
 intro c
 induction c with
 | skip =>
  intro D df ann ρ fr K φ A w a r hD hpu hb hN h hr hs hf hm
  exact wpIn_skip (.inl ⟨φ, A, hs, Onw.refl _ _ _, hm, .inl ⟨.normal, fr, trivial, h.symm, hf, Kept.refl _ _⟩⟩)
 | exit i =>
  intro D df ann ρ fr K φ A w a r hD hpu hb hN h hr hs hf hm
  exact wpIn_exit (.inl ⟨φ, A, hs, Onw.refl _ _ _, hm, .inl ⟨.exit i, fr, rfl, h.symm, hf, Kept.refl _ _⟩⟩)
 | ret =>
  intro D df ann ρ fr K φ A w a r hD hpu hb hN h hr hs hf hm
  exact wpIn_ret (.inl ⟨φ, A, hs, Onw.refl _ _ _, hm, .inl ⟨.ret, fr, trivial, h.symm, hf, Kept.refl _ _⟩⟩)
 | region id ops draw =>
  intro D df ann ρ fr K φ A w a r hD hpu hb hN h hr hs hf hm
  simp only [evCode] at h
  cases hj : annJoin ann with
  | none =>
   rw [hj] at h
   refine wpIn_mono (evRegion_sound hC hI (boundOps hb hN) hD h hr hs hf hm) ?_
   rintro e a1 w1 ⟨φ', A', h1, h2, h3, h4⟩
   refine .inl ⟨φ', A', h1, h2, h3, ?_⟩
   rcases h4 with ⟨fr', rfl, g2, g3, g4⟩ | h4
   ·exact .inl ⟨.normal, fr', trivial, g2, g3, g4⟩
   ·exact .inr h4
  | some j =>
   rw [hj] at h
   simp only at h
   obtain ⟨hw, h⟩ := condM_ok h hr
   unfold M.join at h
   refine wpIn_mono (evRegion_sound hC hI (boundOps hb hN) hD h hr hs hf hm) ?_
   rintro e a1 w1 ⟨φ', A', h1, h2, h3, h4⟩
   refine .inl ⟨φ', A', h1, h2, h3, ?_⟩
   rcases h4 with ⟨fr', rfl, g2, g3, g4⟩ | h4
   ·obtain ⟨x, hx, g2⟩ := need_ok g2.symm hr
    exact .inl ⟨.normal, _, trivial, g2.symm, join_ok hf g3 h2.le g4 (fun t ht => writesIn_wr (c := .region 0 ops draw) hw t ht) hx, g4⟩
   ·exact .inr h4
 | seq x y ihx ihy =>
  intro D df ann ρ fr K φ A w a r hD hpu hb hN h hr hs hf hm
  simp only [boundIn, Bool.and_eq_true] at hb
  simp only [evCode] at h
  cases hdj : annDefer ann with
  | some mods =>
   rw [hdj] at h
   exact defer_sound hC hI hrd hD hb.1 hN h hr hs hf hm fun φ' A' w' a' r' fr' D' hD' hpu' hN' h' hr' hs' hf' hm' => ihy D' false _ _ _ _ φ' A' w' a' r' hD' hpu' hb.2 hN' h' hr' hs' hf' hm'
  | none =>
  rw [hdj] at h
  cases hj : annJoin ann with
  | none =>
   rw [hj] at h
   refine wpIn_seq (wpIn_mono (ihx D df _ _ _ _ φ A w a r hD hpu hb.1 hN h hr hs hf hm) ?_)
   rintro e a1 w1 (⟨φ', A', h1, h2, h3, h4⟩ | ⟨hdf, hp⟩)
   rotate_left
   ·obtain ⟨u, (⟨rfl, hu⟩ | ⟨ch, rfl, hu⟩), hp⟩ := hp
    ·exact pend_pass hdf ⟨u, .inl ⟨rfl, hu⟩, hp⟩
    ·exact pend_pass hdf ⟨u, .inr ⟨ch, rfl, hu⟩, hp⟩
   rcases h4 with ⟨e', fr', g1, g2, g3, g4⟩ | ⟨v, u, rfl, g⟩
   ·cases e' <;> cases e <;> first | exact g1.elim | skip
    ·exact wpIn_mono (ihy D df _ _ _ _ φ' A' w1 a1 r hD hpu hb.2 (by rw [g4.1]; exact hN) g2.symm hr h1 g3 h3) (Post.trans h2 (g4.weaken fun t ht => .inl ht) (fun t ht => .inr ht))
    ·exact .inl ⟨φ', A', h1, h2, h3, .inl ⟨.exit _, fr', g1, g2, g3, g4.weaken fun t ht => .inl ht⟩⟩
    ·exact .inl ⟨φ', A', h1, h2, h3, .inl ⟨.ret, fr', g1, g2, g3, g4.weaken fun t ht => .inl ht⟩⟩
   ·exact .inl ⟨φ', A', h1, h2, h3, .inr ⟨v, u, rfl, g.1, g.2.1, g.2.2.weaken fun t ht => .inl ht⟩⟩
  | some j =>
   rw [hj] at h
   simp only at h
   obtain ⟨hw, h⟩ := condM_ok h hr
   unfold M.join at h
   refine wpIn_seq (wpIn_mono (ihx D df _ _ _ _ φ A w a r hD hpu hb.1 hN h hr hs hf hm) ?_)
   rintro e a1 w1 (⟨φ', A', h1, h2, h3, h4⟩ | ⟨hdf, hp⟩)
   rotate_left
   ·obtain ⟨u, (⟨rfl, hu⟩ | ⟨ch, rfl, hu⟩), hp⟩ := hp
    ·exact pend_pass hdf ⟨u, .inl ⟨rfl, hu⟩, hp⟩
    ·exact pend_pass hdf ⟨u, .inr ⟨ch, rfl, hu⟩, hp⟩
   rcases h4 with ⟨e', fr', g1, g2, g3, g4⟩ | ⟨v, u, rfl, g⟩
   ·cases e' <;> cases e <;> first | exact g1.elim | skip
    ·obtain ⟨q, hx, g2⟩ := need_ok g2.symm hr
     exact wpIn_mono (ihy D df _ _ _ _ φ' A' w1 a1 r hD hpu hb.2 (by rw [g4.1]; exact hN) g2 hr h1 (join_ok hf g3 h2.le g4 (writesIn_wr hw) hx) h3) (Post.trans h2 (g4.weaken fun t ht => .inl ht) (fun t ht => .inr ht))
    ·exact .inl ⟨φ', A', h1, h2, h3, .inl ⟨.exit _, fr', g1, g2, g3, g4.weaken fun t ht => .inl ht⟩⟩
    ·exact .inl ⟨φ', A', h1, h2, h3, .inl ⟨.ret, fr', g1, g2, g3, g4.weaken fun t ht => .inl ht⟩⟩
   ·exact .inl ⟨φ', A', h1, h2, h3, .inr ⟨v, u, rfl, g.1, g.2.1, g.2.2.weaken fun t ht => .inl ht⟩⟩
 | cond x y z ihy ihz =>
  intro D df ann ρ fr K φ A w a r hD hpu hb hN h hr hs hf hm
  simp only [boundIn, Bool.and_eq_true] at hb
  simp only [evCode] at h
  cases hx : fr.eval C.P x with
  | none => rw [hx] at h; exact stuck_ok (A := A) h hr
  | some v =>
   rw [hx] at h
   cases v with
   | bool t =>
    have hc := (hf.eval hx).bool_inv
    simp only [M.ite] at h
    cases t with
    | true => exact wpIn_cond_true hc (wpIn_mono (ihy D df _ _ _ _ φ A w a r hD hpu hb.1 hN h hr hs (hf.setOp hc hx) hm) (Post.trans (Onw.refl _ _ _) (Kept.refl _ _) (fun t ht => .inl ht)))
    | false => exact wpIn_cond_false hc (wpIn_mono (ihz D df _ _ _ _ φ A w a r hD hpu hb.2 hN h hr hs (hf.setOp hc hx) hm) (Post.trans (Onw.refl _ _ _) (Kept.refl _ _) (fun t ht => .inr ht)))
   | _ => exact stuck_ok (A := A) h hr
 | block id x ih =>
  intro D df ann ρ fr K φ A w a r hD hpu hb hN h hr hs hf hm
  simp only [evCode] at h
  cases hj : annJoin ann with
  | none =>
   rw [hj] at h
   refine wpIn_block (wpIn_mono (ih D df _ _ _ _ φ A w a r hD hpu hb hN h hr hs hf hm) ?_)
   rintro e a1 w1 (⟨φ', A', h1, h2, h3, h4⟩ | ⟨hdf, hp⟩)
   rotate_left
   ·obtain ⟨u, (⟨rfl, hu⟩ | ⟨ch, rfl, hu⟩), hp⟩ := hp
    ·exact pend_pass hdf ⟨u, .inl ⟨rfl, hu⟩, hp⟩
    ·exact pend_pass hdf ⟨u, .inr ⟨ch, rfl, hu⟩, hp⟩
   rcases h4 with ⟨e', fr', g1, g2, g3, g4⟩ | ⟨v, u, rfl, g⟩
   ·cases e' <;> cases e <;> first | exact g1.elim | skip
    ·exact .inl ⟨φ', A', h1, h2, h3, .inl ⟨.normal, fr', g1, g2, g3, g4⟩⟩
    ·rename_i i i'
     obtain rfl : i = i' := g1
     simp only [Exit.inBlock]
     simp only [Tree.cond_beq] at g2
     split
     ·rename_i hi
      rw [if_pos hi] at g2
      exact .inl ⟨φ', A', h1, h2, h3, .inl ⟨.normal, fr', trivial, g2, g3, g4⟩⟩
     ·rename_i hi
      rw [if_neg hi] at g2
      exact .inl ⟨φ', A', h1, h2, h3, .inl ⟨.exit i, fr', rfl, g2, g3, g4⟩⟩
    ·exact .inl ⟨φ', A', h1, h2, h3, .inl ⟨.ret, fr', g1, g2, g3, g4⟩⟩
   ·exact .inl ⟨φ', A', h1, h2, h3, .inr ⟨v, u, rfl, g⟩⟩
  | some j =>
   rw [hj] at h
   simp only at h
   obtain ⟨hw, h⟩ := condM_ok h hr
   unfold M.join at h
   refine wpIn_block (wpIn_mono (ih D df _ _ _ _ φ A w a r hD hpu hb hN h hr hs hf hm) ?_)
   rintro e a1 w1 (⟨φ', A', h1, h2, h3, h4⟩ | ⟨hdf, hp⟩)
   rotate_left
   ·obtain ⟨u, (⟨rfl, hu⟩ | ⟨ch, rfl, hu⟩), hp⟩ := hp
    ·exact pend_pass hdf ⟨u, .inl ⟨rfl, hu⟩, hp⟩
    ·exact pend_pass hdf ⟨u, .inr ⟨ch, rfl, hu⟩, hp⟩
   rcases h4 with ⟨e', fr', g1, g2, g3, g4⟩ | ⟨v, u, rfl, g⟩
   ·cases e' <;> cases e <;> first | exact g1.elim | skip
    ·obtain ⟨q, hx, g2⟩ := need_ok g2.symm hr
     exact .inl ⟨φ', A', h1, h2, h3, .inl ⟨.normal, _, g1, g2.symm, join_ok hf g3 h2.le g4 (writesIn_wr hw) hx, g4⟩⟩
    ·rename_i i i'
     obtain rfl : i = i' := g1
     simp only [Exit.inBlock]
     simp only [Tree.cond_beq] at g2
     split
     ·rename_i hi
      rw [if_pos hi] at g2
      obtain ⟨q, hx, g2⟩ := need_ok g2.symm hr
      exact .inl ⟨φ', A', h1, h2, h3, .inl ⟨.normal, _, trivial, g2.symm, join_ok hf g3 h2.le g4 (writesIn_wr hw) hx, g4⟩⟩
     ·rename_i hi
      rw [if_neg hi] at g2
      exact .inl ⟨φ', A', h1, h2, h3, .inl ⟨.exit i, fr', rfl, g2, g3, g4⟩⟩
    ·exact .inl ⟨φ', A', h1, h2, h3, .inl ⟨.ret, fr', g1, g2, g3, g4⟩⟩
   ·exact .inl ⟨φ', A', h1, h2, h3, .inr ⟨v, u, rfl, g⟩⟩
 | loop x ih =>
  intro D df ann ρ fr K φ A w a r hD hpu hb hN h hr hs hf hm
  simp only [evCode] at h
  cases ann with
  | loop aa mods carry exits =>
   simp only at h
   obtain ⟨hw, h⟩ := condM_ok h hr
   obtain ⟨st0, hst0, h⟩ := need_ok h hr
   unfold M.bind at h
   obtain ⟨f, hfd⟩ : ∃ f : ShsT (carry.map (·.2)) → M (ShsT (carry.map (·.2)) ⊕ OutT exits), f = (fun st =>
       evCode C I N rd x false aa (ShsT (carry.map (·.2)) ⊕ OutT exits) ⟨slPut carry st (drop mods fr.env)⟩ (loopK carry exits)) := ⟨_, rfl⟩
   rw [← hfd] at h
   have hne : I.loop f st0 A ≠ .stuck := fun e => by rw [e] at h; exact hr h.symm
   obtain ⟨res, hres⟩ : ∃ res, res = I.loop f st0 A := ⟨_, rfl⟩
   rw [← hres] at h hne
   obtain ⟨n0, hn0⟩ := hI.loop f st0 A res hres.symm hne
   let IR : Nat → Act → World → Prop := fun n a' w' => ∃ st φ' A', whileN f n st A' = res ∧ Sim C.P φ' A' w' ∧ Onw φ A w φ' A' w' ∧ FrOk C.P φ' ⟨slPut carry st (drop mods fr.env)⟩ a' ∧ Kept (wr x) a a' ∧ D φ' w' a'.defers
   let μ : Act → World → Nat := fun a' w' => open Classical in if hx : ∃ n, IR n a' w' then Classical.choose (exists_least _ hx) else 0
   have hμ : ∀ a' w', (∃ n, IR n a' w') → IR (μ a' w') a' w' ∧ ∀ m, IR m a' w' → μ a' w' ≤ m := by
    intro a' w' hx
    have : μ a' w' = Classical.choose (exists_least _ hx) := dif_pos hx
    rw [this]
    exact Classical.choose_spec (exists_least _ hx)
   refine wpIn_loop (fun a' w' => ∃ n, IR n a' w') μ ⟨n0, st0, φ, A, hn0, hs, Onw.refl _ _ _, join_ok hf hf (Le.refl φ) (Kept.refl (wr x) a) (writesIn_wr hw) hst0, Kept.refl _ _, hm⟩ ?_
   intro a1 w1 hI1
   obtain ⟨⟨st, φ1, A1, k1, k2, k3, k4, k5, k6⟩, hmin⟩ := hμ a1 w1 hI1
   generalize hn : μ a1 w1 = n at k1 hmin
   cases n with
   | zero => exact absurd (show Res.stuck = res from k1) (fun e => hne e.symm)
   | succ n =>
    have hfs : f st A1 ≠ .stuck := fun e => by
     simp only [whileN, M.bind, e] at k1
     exact hne k1.symm
    have hfs2 := hfs
    obtain ⟨rf, hrf⟩ : ∃ rf, rf = f st A1 := ⟨_, rfl⟩
    have hrf2 := hrf
    rw [hfd] at hrf2
    rw [← hrf] at hfs
    refine wpIn_mono (ih D false aa _ _ _ φ1 A1 w1 a1 rf hD hpu hb (by rw [k5.1]; exact hN) hrf2.symm hfs k2 k4 k6) ?_
    rintro e a2 w2 (⟨φ2, A2, h1, h2, h3, h4⟩ | ⟨hdf, _⟩)
    rotate_left
    ·cases hdf
    rcases h4 with ⟨e', fr', g1, g2, g3, g4⟩ | ⟨v, u, rfl, g⟩
    ·have out : ∀ e'', e' = e'' → (∀ q, e'' = q → q ≠ .normal) → rf = (M.need (outTake exits e'' fr'.env) fun o => M.pure (.inr o)) A2 → Post df D C.P φ A w a (wr (.loop x)) r K e a2 w2 := by
      intro e'' he hnn g2
      subst he
      obtain ⟨o, ho, g2⟩ := need_ok g2.symm hfs
      have g2 : rf = .ok (.inr o) A2 := g2.symm
      have hok : res = .ok o A2 := by
       rw [← k1]; simp only [whileN, M.bind, ← hrf, g2, M.pure]
      rw [hok] at h
      obtain ⟨l, y, hy1, hy2⟩ := outTake_go ho (drop mods fr.env) (fun e env => K e ⟨env⟩)
      simp only at h
      rw [hy2] at h
      have hk2 := k5.trans g4
      exact .inl ⟨φ2, A2, h1, k3.trans h2, h3, .inl ⟨e', _, g1, h.symm, join_ok hf g3 (k3.trans h2).le hk2 (writesIn_wr hw) hy1, hk2⟩⟩
     cases e' <;> cases e <;> first | exact g1.elim | skip
     ·obtain ⟨st', hst', g2⟩ := need_ok g2.symm hfs
      have g2 : rf = .ok (.inl st') A2 := g2.symm
      have hIR : IR n a2 w2 := ⟨st', φ2, A2, by rw [← k1]; simp only [whileN, M.bind, ← hrf, g2], h1, k3.trans h2, join_ok hf g3 (k3.trans h2).le (k5.trans g4) (writesIn_wr hw) hst', k5.trans g4, h3⟩
      refine ⟨⟨n, hIR⟩, ?_⟩
      have := (hμ a2 w2 ⟨n, hIR⟩).2 n hIR
      omega
     ·exact out _ rfl (by rintro q rfl e; cases e) g2
     ·exact out _ rfl (by rintro q rfl e; cases e) g2
    ·obtain ⟨g5, g6, g7⟩ := g
     have hok : res = .panic v A2 := by
      rw [← k1]; simp only [whileN, M.bind, ← hrf, g6]
     rw [hok] at h
     exact .inl ⟨φ2, A2, h1, k3.trans h2, h3, .inr ⟨v, u, rfl, g5, h.symm, k5.trans g7⟩⟩
  | _ => exact stuck_ok (A := A) h hr
 | rangeFunc g ps assign body iha ihb =>
  intro D df ann ρ fr K φ A w a r hD hpu hb hN h hr hs hf hm
  simp only [evCode] at h
  cases hx : fr.eval C.P g with
  | none => rw [hx] at h; exact stuck_ok (A := A) h hr
  | some vg =>
   rw [hx] at h
   cases vg with
   | func fg first captured =>
    cases fg with
    | func gf =>
     simp only at h
     obtain ⟨hc, h⟩ := condM_ok h hr
     simp only [Bool.and_eq_true, Bool.not_eq_true', Option.isNone_iff_eq_none] at hc
     obtain ⟨hrd0, hext⟩ := hc
     have hro := hrd hrd0
     subst hro
     have hgv := hf.eval hx
     generalize hug : a.eval g = ug at hgv
     cases hgv with
     | @func _ g' _ _ c1 d1 hfg ha1 hac hb1 hbd =>
      cases g' with
      | func g' =>
       obtain rfl : gf = g' := hfg
       unfold M.new at h
       refine wpIn_rangeFunc fun fn _ => ?_
       obtain ⟨wd, hwd⟩ : ∃ wd : World, wd = { w with heap := w.heap.push (.deferred (some [])) } := ⟨_, rfl⟩
       obtain ⟨lo, hlo⟩ : ∃ lo : Loop, lo = { state := .ready, pending := none, fn := fn, tmps := a.tmps, params := ps, assign := assign, body := body, defers := w.heap.size } := ⟨_, rfl⟩
       obtain ⟨w1, hw1⟩ : ∃ w1 : World, w1 = { wd with heap := wd.heap.push (.loop lo) } := ⟨_, rfl⟩
       have hpush : wd.heap = w.heap.push (.deferred (some [])) := by rw [hwd]
       have hsd := hs.push (w' := wd) hpush
       have hod : Onw φ A w φ A wd := Onw.push hpush (by rw [hwd]; exact ⟨rfl, rfl, rfl⟩)
       have hszd : wd.heap.size = w.heap.size + 1 := by rw [hpush]; simp
       obtain ⟨s1, s2⟩ := hsd.alloc (o := .loop { state := .ready, pending := none, bound := N, env := fr.env, params := ps.toList, assign := assign, body := body, ann := ann }) (o' := .loop lo) (ex := 0) (w' := w1) (by rw [hw1]) ⟨lo, rfl, by rw [hlo], by rw [hlo], by rw [hlo]; exact hN, by rw [hlo]; exact hf.env, by rw [hlo], by rw [hlo], by rw [hlo]⟩ (by rw [hw1]; exact ⟨rfl, rfl, rfl⟩)
       obtain ⟨φ1, hφ1⟩ : ∃ φ1, φ1 = setPhi φ A.next (some (wd.heap.size, 0)) := ⟨_, rfl⟩
       rw [← hφ1] at s1 s2
       have s3 := hod.trans s2
       have hbr : φ1 A.next = some (some (wd.heap.size, 0)) := by rw [hφ1]; simp
       let mark : List Deferred := [{ target := .collected w.heap.size, args := #[] }]
       have hmark : D φ1 w1 (mark ++ a.defers) := by
        refine (hpu (by simpa using hrd0)).push hm s3 ?_ fun b ex hb' => ?_
        ·rw [hw1, hwd]
         simp [Array.getElem?_push]
        ·rw [hφ1] at hb'
         by_cases e : b = A.next
         ·subst e
          rw [setPhi_same] at hb'
          simp [hszd] at hb'
         ·rw [setPhi_ne φ _ e] at hb'
          have := hs.lt hb'
          omega
       unfold callF at h
       rw [hext] at h
       simp only at h
       cases hfn : C.P.funcs[gf]? with
       | none => rw [hfn] at h; exact stuck_ok (A := A) h hr
       | some fnn =>
        rw [hfn] at h
        simp only at h
        cases hbody : fnn.body with
        | none => rw [hbody] at h; exact stuck_ok (A := A) h hr
        | some cc =>
         rw [hbody] at h
         simp only at h
         unfold M.callS M.bind at h
         have hname := hC.name gf fnn hfn (by rw [hbody]; rfl)
         have hyv : VR φ1 (.func (.yield A.next) #[] #[]) (.func (.yield wd.heap.size) #[] #[]) :=
          .func (f := .yield A.next) (g := .yield wd.heap.size) ⟨_, hbr, fun x y e => by simp at e; exact e.1⟩ rfl (fun i x y hx => by simp at hx) rfl (fun i x y hx => by simp at hx)
         have hargs : Rs φ1 (first.toList ++ [.func (.yield A.next) #[] #[]] ++ captured.toList) (c1.toList ++ [.func (.yield wd.heap.size) #[] #[]] ++ d1.toList) :=
          (Rs.append (Rs.mono ⟨ha1, hac⟩ s3.le) (Rs.cons hyv Rs.nil)).append (Rs.mono ⟨hb1, hbd⟩ s3.le)
         generalize hAl : A.alloc (.loop { state := .ready, pending := none, bound := N, env := fr.env, params := ps.toList, assign := assign, body := body, ann := ann }) = Al at *
         have hcall : I.call (.call gf (first.toList ++ [.func (.yield A.next) #[] #[]] ++ captured.toList)) Al ≠ .stuck := fun e => by rw [e] at h; exact hr h.symm
         have hgl : GlobOk C.P φ1 := hf.glob.mono s3.le
         have hcalls := hI.call gf _ Al _ rfl hcall φ1 w1 _ hgl s1 hargs
         refine ⟨wd.heap.size, mark, w1, { target := .fn (.func gf) d1, args := c1 ++ #[.func (.yield wd.heap.size) #[] #[]] }, w1, gf, c1 ++ #[.func (.yield wd.heap.size) #[] #[]] ++ d1, w1, ?_, ?_, fun _ _ => trivial, ?_, fun e => by simp [Fence.wide] at e, callsIn_Fw (ro := none) ?_⟩
         ·simp only [Instr.enterLoop, Sem.run_bind, run_newObj, Result.andThen_ok, Sem.run_pure, hw1, hwd, hlo, mark]
         ·have : (rangeCall g wd.heap.size).args.map a.eval = #[.func (.yield wd.heap.size) #[] #[]] := by simp [Act.eval]
          simp only [resolve, hug] at this ⊢
          rw [this]
          rfl
         ·simp only [invoke, callFunc, Sem.run_bind, run_program, Result.andThen_ok, hfn, hname, Bool.false_eq_true, if_false, hbody, Option.isNone_some, Sem.run_pure]
         ·have harr : (c1.toList ++ [Value.func (.yield wd.heap.size) #[] #[]] ++ d1.toList).toArray = c1 ++ #[.func (.yield wd.heap.size) #[] #[]] ++ d1 := by apply Array.ext'; simp
          rw [harr] at hcalls
          refine CallsIn.mono hcalls fun e w3 hend => ?_
          cases e with
          | outgrown => exact hend.elim
          | panicked chain =>
           obtain ⟨v, u, φ', A', k1, k2, k3, k4, k5⟩ := hend
           rw [k1] at h
           simp only at h
           subst k2
           exact .inl ⟨φ', A', k4, s3.trans k5, hD.onw hmark k5, .inr ⟨v, u, rfl, k3, h.symm, ⟨rfl, fun _ _ => rfl⟩⟩⟩
          | returned u =>
           obtain ⟨v, φ', A', k1, k2, k3, k4⟩ := hend
           rw [k1] at h
           simp only at h
           obtain ⟨xx, hxx, h⟩ := need_ok h hr
           unfold M.endLoop at h
           cases hgl2 : A'.get A.next with
           | none => rw [hgl2] at h; exact absurd h.symm hr
           | some oa =>
            rw [hgl2] at h
            cases oa with
            | loop rl =>
             simp only at h
             have hbr' : BR φ' A.next wd.heap.size := BR.mono ⟨_, hbr, fun x y e => by simp at e; exact e.1⟩ k4.le
             obtain ⟨ex', o', hφ', hw3, l3, rfl, l1, l2, l4, l5, l6, l7, l8⟩ := k3.liveB hbr' hgl2
             have hget : (Instr.getLoop wd.heap.size).run C.P w3 = .ok l3 w3 := by simp [Instr.getLoop, getObj, Sem.run, hw3]
             have hlt := (Array.getElem?_eq_some_iff.1 hw3).1
             obtain ⟨w4, hw4⟩ : ∃ w4 : World, w4 = { w3 with heap := w3.heap.setIfInBounds wd.heap.size (.loop { l3 with state := .exhausted }) } := ⟨_, rfl⟩
             have hset : (setObj wd.heap.size (.loop { l3 with state := .exhausted })).run C.P w3 = .ok () w4 := by simp [setObj, Sem.run, hw3, hw4]
             obtain ⟨t1, t2⟩ := k3.put (o := .loop { rl with state := .exhausted }) (o' := .loop { l3 with state := .exhausted }) (w' := w4) hφ' (by rw [hw4]; exact ⟨by simp, rfl, rfl, rfl⟩) (fun d hd => by rw [hw4]; simp [Ne.symm hd]) (by rw [hw4]; simp [hlt]) ⟨_, rfl, rfl, l2, l4, l5, l6, l7, l8⟩
             have hfin := s3.trans (k4.trans t2)
             have hmk := hD.onw (hD.onw hmark k4) t2
             have hfrok : FrOk C.P φ' fr { a with defers := mark ++ a.defers } := ⟨(hf.mono (s3.trans k4).le).env, (hf.mono (s3.trans k4).le).glob⟩
             have hnb : rl.state ≠ .busy := fun e => by rw [e] at h; exact hr h.symm
             have hend : (Instr.endLoop wd.heap.size).run C.P w3 = .ok l3.pending w4 := by
              have : (l3.state == LoopState.busy) = false := by rw [l1]; cases hst : rl.state <;> first | rfl | exact absurd hst hnb
              simp only [Instr.endLoop, Sem.run_bind, hget, Result.andThen_ok, this, Bool.false_eq_true, if_false, hset, Sem.run_pure]
             refine ⟨l3.pending, w4, hend, ?_⟩
             have h' : (match rl.pending with
              | none => K .normal fr
              | some .ret => K .ret fr
              | some (.exit i) => K (.exit i) fr
              | some _ => M.stuck) (A'.put A.next (.loop { rl with state := .exhausted })) = r := by
              cases hst : rl.state <;> rw [hst] at h <;> first | exact absurd hst hnb | exact h
             rw [l2]
             generalize A'.put A.next (.loop { rl with state := .exhausted }) = Ae at h' t1 t2 hfin
             cases hp : rl.pending with
             | none =>
              rw [hp] at h'
              exact .inl ⟨φ', _, t1, hfin, hmk, .inl ⟨.normal, fr, trivial, h'.symm, hfrok, Kept.refl _ _⟩⟩
             | some pc =>
              rw [hp] at h'
              cases pc with
              | ret => exact wpIn_ret (.inl ⟨φ', _, t1, hfin, hmk, .inl ⟨.ret, fr, trivial, h'.symm, hfrok, Kept.refl _ _⟩⟩)
              | exit i => exact wpIn_exit (.inl ⟨φ', _, t1, hfin, hmk, .inl ⟨.exit i, fr, rfl, h'.symm, hfrok, Kept.refl _ _⟩⟩)
              | _ => exact stuck_ok (A := A) h' hr
            | _ => exact absurd h.symm hr
      | _ => exact hfg.elim
    | _ => exact stuck_ok (A := A) h hr
   | _ => exact stuck_ok (A := A) h hr
 | _ =>
  intro D df ann ρ fr K φ A w a r hD hpu hb hN h hr hs hf hm
  exact stuck_ok (A := A) h hr
end
end Go.Eng
