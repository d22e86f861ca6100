/-
 The engine, part 22: what a function of the program comes to over an abstract heap; each part is proved against the model.
-/
import Derived.Test.YtlcigkdflbfdgaaGreatDoorEng21
namespace Go.Eng
open Go
section
variable {C : Cfg} {I : Interp} {fr fr' : Fr} {ρ : Type} {φ φ' : Phi} {A A' : AW} {w : World} {a : Act} {ro : Option Nat} {ops : Array Oper}
theorem guard_wanted {o : Oper} {b : Bool} (hf : FrOk C.P φ fr a) (h : guardSt ops.toList o fr = some b) : Region.wanted o (yielded ops a.tmps) = b := by
 unfold guardSt at h
 cases hg : o.guard with
 | none =>
  rw [hg] at h
  obtain rfl := Option.some.inj h
  simp [Region.wanted, hg]
 | some jw =>
  obtain ⟨j, want⟩ := jw
  rw [hg] at h
  simp only at h
  cases hd : (ops.toList[j]?).bind (·.dst) with
  | none => rw [hd] at h; cases h
  | some d =>
   rw [hd] at h
   have hd' : (ops[j]?).bind (·.dst) = some d := by simpa using hd
   simp only at h
   cases hl : look d fr.env with
   | none => rw [hl] at h; cases h
   | some v =>
    rw [hl] at h
    obtain ⟨u, hu, huv⟩ := hf.env d v hl
    cases v with
    | bool c =>
     obtain rfl := huv.bool_inv
     have hy : yielded ops a.tmps j = some c := by
      unfold yielded
      rw [hd']
      simp [hu]
     obtain rfl := Option.some.inj h
     cases c <;> cases want <;> simp [Region.wanted, hg, hy]
    | tuple cs =>
     obtain rfl := Option.some.inj h
     have hy : yielded ops a.tmps j = none := by
      unfold yielded
      rw [hd']
      cases huv <;> simp [hu]
     simp [Region.wanted, hg, hy]
    | _ => cases h
theorem stepV_sound (hC : COk C) (hI : IOk C.P I) {o : Oper} {K : Value → M ρ} {r : Res ρ} (h : stepV C I ops.toList o fr K A = r) (hr : r ≠ .stuck) (hs : Sim C.P φ A w) (hf : FrOk C.P φ fr a) :
  if Region.wanted o (yielded ops a.tmps) then o.wpIn (Fw ro) 0 C.P a w (OpNext C.P φ A w a o.dst r K) (OpPan C.P φ A w a r)
  else (∀ f, o.about C.P w a.eval = some f → (Fw ro).fn f) ∧ OpNext C.P φ A w a o.dst r K (a.put o.dst undef) w := by
 unfold stepV at h
 cases hg : guardSt ops.toList o fr with
 | none => rw [hg] at h; exact absurd h.symm hr
 | some b =>
  rw [hg] at h
  rw [guard_wanted hf hg]
  cases b with
  | true =>
   simp only at h
   rw [if_pos rfl]
   refine ⟨fun _ _ => trivial, ?_⟩
   rw [Oper.semAt_eq _ _ _ (evOp_noDefer (by rw [h]; exact hr))]
   exact evOp_sound (ro := ro) hC hI h hr hs hf
  | false =>
   simp only at h
   rw [if_neg (by simp)]
   exact ⟨fun _ _ => trivial, undef, undef, A, φ, h.symm, vr_undef φ, rfl, hs, Onw.refl _ _ _⟩
def Pnd (C : Cfg) (I : Interp) (ops : List Oper) (n0 : Nat) (φ : Phi) (A : AW) (fr : Fr) (bl : Option Nat) (o : Oper) : Prop :=
 ∃ v, (∀ d, o.dst = some d → look d fr.env = some v) ∧
  ((∀ (ρ : Type) (K : Value → M ρ) A', stepV C I ops o fr K A' = K v A') ∨
   (guardSt ops o fr = some true ∧ Loads C o fr A v) ∨
   (guardSt ops o fr = some true ∧ opKind C o.op = 2 ∧ ∃ b vf obj, bl = some b ∧ v = vf b ∧ MkV vf ∧ n0 ≤ b ∧ φ b = none ∧ A.get b = some obj ∧ ∀ (ρ : Type) (K : Value → M ρ) A', evOp C I o fr K A' = K (vf A'.next) (A'.alloc obj)))
theorem agree_upd {l : List Nat} {dst : Option Tmp} {v : Value} (hu : Upd fr dst v fr') (h : ∀ d, dst = some d → d ∉ l) : Agree l fr' fr := fun t ht => by
 rw [hu t, if_neg (fun e => h t e ht)]
theorem Agree.symm {l : List Nat} (h : Agree l fr fr') : Agree l fr' fr := fun t ht => (h t ht).symm
theorem Pnd.upd {ops : List Oper} {n0 : Nat} {bl : Option Nat} {o : Oper} (h : Pnd C I ops n0 φ A fr bl o) {dst : Option Tmp} {x : Value} (hu : Upd fr dst x fr') (hd : ∀ d, dst = some d → d ∉ readsOf ops o ∧ o.dst ≠ some d) :
  Pnd C I ops n0 φ A fr' bl o := by
 have hag : Agree (readsOf ops o) fr' fr := agree_upd hu fun d e => (hd d e).1
 obtain ⟨v, h1, h2⟩ := h
 refine ⟨v, fun d e => ?_, ?_⟩
 ·rw [hu d, if_neg (fun e' => (hd d e').2 e)]; exact h1 d e
 ·rcases h2 with h2 | ⟨h2, h3⟩ | ⟨h2, h3, b, vf, obj, h4, h5, h6, h7, h9, h10, h11⟩
  ·exact .inl fun ρ K A' => by rw [stepV_congr hag]; exact h2 ρ K A'
  ·exact .inr (.inl ⟨by rw [guardSt_congr hag]; exact h2, h3.congr hag.symm⟩)
  ·refine .inr (.inr ⟨by rw [guardSt_congr hag]; exact h2, h3, b, vf, obj, h4, h5, h6, h7, h9, h10, fun ρ K A' => ?_⟩)
   rw [evOp_congr (fr := fr') (fr' := fr) fun x hx => eval_congr fun t ht => hag t (mem_readsOf hx ht)]
   exact h11 ρ K A'
theorem Pnd.ghost {ops : List Oper} {n0 : Nat} {bl : Option Nat} {o : Oper} (h : Pnd C I ops n0 φ A fr bl o) (hf : ∀ b, A.next ≤ b → A.get b = none) (obj : AObj) : Pnd C I ops n0 φ (A.alloc obj) fr bl o := by
 obtain ⟨v, h1, h2⟩ := h
 refine ⟨v, h1, ?_⟩
 rcases h2 with h2 | ⟨h2, h3⟩ | ⟨h2, h3, b, vf, obj', h4, h5, h6, h7, h9, h10, h11⟩
 ·exact .inl h2
 ·exact .inr (.inl ⟨h2, h3.alloc hf obj⟩)
 ·refine .inr (.inr ⟨h2, h3, b, vf, obj', h4, h5, h6, h7, h9, ?_, h11⟩)
  have : b ≠ A.next := fun e => by rw [hf b (by omega)] at h10; cases h10
  rw [AW.get_alloc, if_neg this]; exact h10
structure Inv (C : Cfg) (I : Interp) (ops : Array Oper) (φ0 : Phi) (A0 : AW) (w0 : World) (a0 : Act) (blk : Nat → Option Nat) (listed : Array Bool) (done : List Nat) (fr : Fr) (φ : Phi) (A : AW) (w : World) (a : Act) : Prop where
 sim : Sim C.P φ A w
 onw : Onw φ0 A0 w0 φ A w
 glob : GlobOk C.P φ
 kept : Kept (wrOps ops) a0 a
 defs : a.defers = a0.defers
 size : listed.size = ops.size
 sub : ∀ i, listed.getD i false = true → i ∈ done
 dpre : ∀ i o, i ∈ done → ops.toList[i]? = some o → ∀ j ∈ predsOf o, j ∈ done
 lpre : ∀ i o, listed.getD i false = true → ops.toList[i]? = some o → ∀ j ∈ predsOf o, listed.getD j false = true
 heavy : ∀ i o, i ∈ done → ops.toList[i]? = some o → opKind C o.op = 3 → listed.getD i false = true
 env : ∀ t v, look t fr.env = some v → (∀ i o, i ∈ done → listed.getD i false = false → ops.toList[i]? = some o → o.dst ≠ some t) → ∃ u, a.tmps[t]? = some u ∧ VR φ v u
 pend : ∀ i o, i ∈ done → listed.getD i false = false → ops.toList[i]? = some o → Pnd C I ops.toList A0.next φ A fr (blk i) o
 blt : ∀ i b, blk i = some b → b < A.next
 binj : ∀ i j b, blk i = some b → blk j = some b → i = j
variable {φ0 : Phi} {A0 : AW} {w0 : World} {a0 : Act} {blk : Nat → Option Nat} {listed : Array Bool} {done : List Nat}
theorem Inv.light (hv : Inv C I ops φ0 A0 w0 a0 blk listed done fr φ A w a) (hso : slotsOk C ops.toList (befores ops.toList []) = true) {i : Nat} {o : Oper} (hi : ops.toList[i]? = some o) (hk : opKind C o.op ≠ 3)
  (hnd : i ∉ done) (hpre : ∀ j ∈ predsOf o, j ∈ done) {K : Fr → M ρ} {r : Res ρ} (h : stepOp C I ops.toList o fr K A = r) (hr : r ≠ .stuck) :
  ∃ blk' fr' A', K fr' A' = r ∧ Inv C I ops φ0 A0 w0 a0 blk' listed (i :: done) fr' φ A' w a := by
 have hul : listed.getD i false = false := by
  cases e : listed.getD i false
  ·rfl
  ·exact absurd (hv.sub i e) hnd
 have hself : ∀ d, o.dst = some d → d ∉ readsOf ops.toList o := fun d hd => by
  rcases (((slots_all hso hi).2 i o hi d hd).2 hk).1 with h | ⟨h, _⟩
  ·exact h
  ·exact absurd rfl h
 have hoth : ∀ k u, k ∈ done → ops.toList[k]? = some u → ∀ d, o.dst = some d → d ∉ readsOf ops.toList u ∧ u.dst ≠ some d := fun k u hkd hu d hd => by
  obtain ⟨h1, h2⟩ := (((slots_all hso hu).2 i o hi d hd).2 hk)
  constructor
  ·rcases h1 with h1 | ⟨_, h1⟩
   ·exact h1
   ·exact absurd (waits_closed (S := (· ∈ done)) (fun i o a b => hv.dpre i o a b) k (fun o' ho' => hv.dpre k o' hkd ho') h1) hnd
  ·rcases h2 with h2 | h2
   ·exact absurd (h2 ▸ hkd) hnd
   ·exact h2
 have mk : ∀ (blk' : Nat → Option Nat) (v : Value) (A1 : AW), Sim C.P φ A1 w → Onw φ0 A0 w0 φ A1 w → (∀ k, k ≠ i → blk' k = blk k) → (∀ i b, blk' i = some b → b < A1.next) → (∀ i j b, blk' i = some b → blk' j = some b → i = j) →
   (∀ k u, k ∈ done → listed.getD k false = false → ops.toList[k]? = some u → Pnd C I ops.toList A0.next φ A1 fr (blk k) u) →
   Pnd C I ops.toList A0.next φ A1 ((nf ops.toList o fr).putDst o.dst v) (blk' i) o →
   Inv C I ops φ0 A0 w0 a0 blk' listed (i :: done) ((nf ops.toList o fr).putDst o.dst v) φ A1 w a := by
  intro blk' v A1 hs1 ho1 hb hblt hbinj hpd hpi
  have hu := upd_nf (fr := fr) ops.toList o v
  refine ⟨hs1, ho1, hv.glob, hv.kept, hv.defs, hv.size, fun k hk => List.mem_cons_of_mem _ (hv.sub k hk), ?_, hv.lpre, ?_, ?_, ?_, hblt, hbinj⟩
  ·intro k u hkd hu' j hj
   rcases List.mem_cons.1 hkd with rfl | hkd
   ·rw [hi] at hu'
    obtain rfl := Option.some.inj hu'
    exact List.mem_cons_of_mem _ (hpre j hj)
   ·exact List.mem_cons_of_mem _ (hv.dpre k u hkd hu' j hj)
  ·intro k u hkd hu' h3
   rcases List.mem_cons.1 hkd with rfl | hkd
   ·rw [hi] at hu'
    obtain rfl := Option.some.inj hu'
    exact absurd h3 hk
   ·exact hv.heavy k u hkd hu' h3
  ·intro t x hx hc
   have hne : o.dst ≠ some t := hc i o (by simp) hul hi
   rw [hu t, if_neg hne] at hx
   exact hv.env t x hx fun k u hkd hkl hu' => hc k u (List.mem_cons_of_mem _ hkd) hkl hu'
  ·intro k u hkd hkl hu'
   rcases List.mem_cons.1 hkd with e | hkd
   ·subst e
    rw [hi] at hu'
    obtain rfl := Option.some.inj hu'
    exact hpi
   ·have hne : k ≠ i := fun e => hnd (e ▸ hkd)
    rw [hb k hne]
    exact (hpd k u hkd hkl hu').upd hu (hoth k u hkd hu')
 rw [stepOp_stepV] at h
 have hag : ∀ v, Agree (readsOf ops.toList o) ((nf ops.toList o fr).putDst o.dst v) fr := fun v => agree_upd (upd_nf ops.toList o v) hself
 have hlook : ∀ v d, o.dst = some d → look d ((nf ops.toList o fr).putDst o.dst v).env = some v := fun v d hd => by rw [upd_nf ops.toList o v d, if_pos hd]
 unfold stepV at h
 cases hg : guardSt ops.toList o fr with
 | none => rw [hg] at h; exact absurd h.symm hr
 | some b =>
  rw [hg] at h
  cases b with
  | false =>
   refine ⟨blk, _, A, h, mk blk undef A hv.sim hv.onw (fun _ _ => rfl) hv.blt hv.binj (fun k u a b c => hv.pend k u a b c) ⟨undef, hlook undef, .inl fun ρ K A' => ?_⟩⟩
   rw [stepV_congr (hag undef)]
   unfold stepV
   rw [hg]
  | true =>
   simp only at h
   have hk3 : opKind C o.op = 0 ∨ opKind C o.op = 1 ∨ opKind C o.op = 2 := by
    have : opKind C o.op ≤ 3 := by
     unfold opKind
     split <;> try omega
     all_goals (split <;> try omega)
     all_goals (split <;> try omega)
    omega
   rcases hk3 with h0 | h0 | h0
   ·rcases evOp_unif (C := C) (I := I) (fr := fr) h0 with hu | ⟨v, hu⟩
    ·exact absurd ((congrFun (hu ρ _) A).symm.trans h).symm hr
    ·have h := (congrFun (hu ρ _) A).symm.trans h
     refine ⟨blk, _, A, h, mk blk v A hv.sim hv.onw (fun _ _ => rfl) hv.blt hv.binj (fun k u a b c => hv.pend k u a b c) ⟨v, hlook v, .inl fun ρ K A' => ?_⟩⟩
     rw [stepV_congr (hag v)]
     unfold stepV
     rw [hg]
     exact congrFun (hu ρ K) A'
   ·obtain ⟨v, hl⟩ := Loads.of (I := I) h0 (by rw [h]; exact hr)
    have h := (hl.val (I := I) _).symm.trans h
    exact ⟨blk, _, A, h, mk blk v A hv.sim hv.onw (fun _ _ => rfl) hv.blt hv.binj (fun k u a b c => hv.pend k u a b c)
     ⟨v, hlook v, .inr (.inl ⟨by rw [guardSt_congr (hag v)]; exact hg, hl.congr (hag v).symm⟩)⟩⟩
   ·rcases evOp_unifM (C := C) (I := I) (fr := fr) h0 with hu | ⟨vf, obj, hmk, hu⟩
    ·exact absurd ((congrFun (hu ρ _) A).symm.trans h).symm hr
    ·have h := (hu ρ _ A).symm.trans h
     have hfr := hv.sim.fresh
     refine ⟨fun k => if k = i then some A.next else blk k, _, A.alloc obj, h, mk _ (vf A.next) (A.alloc obj) (hv.sim.ghost obj) (hv.onw.ghost obj) (fun k hk => if_neg hk) ?_ ?_ (fun k u a b c => (hv.pend k u a b c).ghost hfr obj) ?_⟩
     ·intro k b hb
      by_cases e : k = i
      ·rw [if_pos e] at hb
       have := Option.some.inj hb
       simp; omega
      ·rw [if_neg e] at hb
       have := hv.blt k b hb
       simp; omega
     ·intro k j b hb hb'
      by_cases e : k = i <;> by_cases e' : j = i
      ·rw [e, e']
      ·rw [if_pos e] at hb; rw [if_neg e'] at hb'
       have := Option.some.inj hb
       have := hv.blt j b hb'
       omega
      ·rw [if_neg e] at hb; rw [if_pos e'] at hb'
       have := Option.some.inj hb'
       have := hv.blt k b hb
       omega
      ·rw [if_neg e] at hb; rw [if_neg e'] at hb'
       exact hv.binj k j b hb hb'
     ·refine ⟨vf A.next, hlook _, .inr (.inr ⟨by rw [guardSt_congr (hag _)]; exact hg, h0, A.next, vf, obj, if_pos rfl, rfl, hmk, hv.onw.next, hv.sim.unused, by simp, fun ρ K A' => ?_⟩)⟩
      rw [evOp_congr (fr' := fr) fun x hx => eval_congr fun t ht => hag (vf A.next) t (mem_readsOf hx ht)]
      exact hu ρ K A'
theorem look_drop' {mods : List Nat} : ∀ {l : Slots} {t : Nat}, look t (drop mods l) = if t ∈ mods then none else look t l
 | [], t => by simp [drop, look]
 | (u, x) :: l, t => by
  simp only [drop]
  cases hm : mods.any (Nat.beq u) with
  | true =>
   simp only [cond_true, look_drop' (l := l), look_cons]
   have hu : u ∈ mods := elemB_iff.1 hm
   by_cases e : t ∈ mods
   ·simp [e]
   ·rw [if_neg e, if_neg e, if_neg (fun h : u = t => e (h ▸ hu))]
  | false =>
   have hu : u ∉ mods := fun h => by
    have : mods.any (Nat.beq u) = true := elemB_iff.2 h
    rw [hm] at this; cases this
   simp only [cond_false, look_cons, look_drop' (l := l)]
   by_cases e : u = t
   ·subst e; simp [hu]
   ·simp [e]
def pds (ops : List Oper) (listed : Array Bool) (done : List Nat) : List Nat := done.flatMap fun i => if listed.getD i false then [] else ((ops[i]?).bind (·.dst)).toList
theorem mem_pds {ops : List Oper} {t : Nat} : t ∈ pds ops listed done ↔ ∃ i o, i ∈ done ∧ listed.getD i false = false ∧ ops[i]? = some o ∧ o.dst = some t := by
 unfold pds
 rw [List.mem_flatMap]
 constructor
 ·rintro ⟨i, hi, h⟩
  cases hl : listed.getD i false with
  | true => rw [hl] at h; simp at h
  | false =>
   rw [hl] at h
   simp only [Bool.false_eq_true, if_false, Option.mem_toList] at h
   obtain ⟨o, ho, hd⟩ := Option.bind_eq_some_iff.1 h
   exact ⟨i, o, hi, hl, ho, hd⟩
 ·rintro ⟨i, o, hi, hl, ho, hd⟩
  refine ⟨i, hi, ?_⟩
  rw [hl]
  simp [ho, hd]
theorem Inv.frOk (hv : Inv C I ops φ0 A0 w0 a0 blk listed done fr φ A w a) : FrOk C.P φ ⟨drop (pds ops.toList listed done) fr.env⟩ a :=
 ⟨fun t v h => by
  rw [look_drop'] at h
  by_cases e : t ∈ pds ops.toList listed done
  ·rw [if_pos e] at h; cases h
  ·rw [if_neg e] at h
   exact hv.env t v h fun i o hi hl ho hd => e (mem_pds.2 ⟨i, o, hi, hl, ho, hd⟩), hv.glob⟩
theorem Inv.agree (hv : Inv C I ops φ0 A0 w0 a0 blk listed done fr φ A w a) (hso : slotsOk C ops.toList (befores ops.toList []) = true) {i : Nat} {o : Oper} (hi : ops.toList[i]? = some o) (hpre : ∀ j ∈ predsOf o, listed.getD j false = true) :
  Agree (readsOf ops.toList o) ⟨drop (pds ops.toList listed done) fr.env⟩ fr := fun t ht => by
 rw [look_drop', if_neg]
 rw [mem_pds]
 rintro ⟨k, u, hkd, hkl, hu, hd⟩
 have hk3 : opKind C u.op ≠ 3 := fun e => by rw [hv.heavy k u hkd hu e] at hkl; cases hkl
 rcases (((slots_all hso hi).2 k u hu t hd).2 hk3).1 with h | ⟨_, h⟩
 ·exact h ht
 ·have := waits_closed (S := fun k => listed.getD k false = true) (fun i o a b => hv.lpre i o a b) i (fun o' ho' => by rw [hi] at ho'; obtain rfl := Option.some.inj ho'; exact hpre) h
  rw [hkl] at this; cases this
theorem getD_set {listed : Array Bool} {i : Nat} (hlt : i < listed.size) (k : Nat) : (listed.setIfInBounds i true).getD k false = if k = i then true else listed.getD k false := by
 by_cases e : k = i
 ·subst e; simp [hlt]
 ·rw [getD_set_ne false (Ne.symm e), if_neg e]
theorem Pnd.mono {ops : List Oper} {n0 : Nat} {bl : Option Nat} {o : Oper} (h : Pnd C I ops n0 φ A fr bl o) (hb : ∀ b, bl = some b → φ b = none → φ' b = none) : Pnd C I ops n0 φ' A fr bl o := by
 obtain ⟨v, h1, h2⟩ := h
 refine ⟨v, h1, ?_⟩
 rcases h2 with h2 | h2 | ⟨h2, h3, b, vf, obj, h4, h5, h6, h7, h9, h10, h11⟩
 ·exact .inl h2
 ·exact .inr (.inl h2)
 ·exact .inr (.inr ⟨h2, h3, b, vf, obj, h4, h5, h6, h7, hb b h4 h9, h10, h11⟩)
theorem Inv.list (hv : Inv C I ops φ0 A0 w0 a0 blk listed done fr φ A w a) (hb : ∀ o ∈ ops.toList, ∀ d, o.dst = some d → d < a0.tmps.size)
  {i : Nat} {o : Oper} (hi : ops.toList[i]? = some o) (hd : i ∈ done) (hl : listed.getD i false = false) (hpre : ∀ j ∈ predsOf o, listed.getD j false = true)
  {v v' : Value} (hlook : ∀ d, o.dst = some d → look d fr.env = some v) (hr : VR φ' v v') {w1 : World} (hs : Sim C.P φ' A w1) (ho : Onw φ0 A0 w0 φ' A w1) (hle : Le φ φ') (hbl : ∀ k b, k ≠ i → blk k = some b → φ b = none → φ' b = none) :
  Inv C I ops φ0 A0 w0 a0 blk (listed.setIfInBounds i true) done fr φ' A w1 (a.put o.dst v') := by
 have hmem : o ∈ ops.toList := List.mem_of_getElem? hi
 have hlt : i < listed.size := by
  rw [hv.size]
  have := (List.getElem?_eq_some_iff.1 hi).1
  simpa using this
 have hset := getD_set hlt
 have hk3 : opKind C o.op ≠ 3 := fun e => by rw [hv.heavy i o hd hi e] at hl; cases hl
 refine ⟨hs, ho, hv.glob.mono hle, hv.kept.trans (Kept.put _ _ _ _ fun d hd => ⟨o, hmem, hd⟩), by rw [put_defers]; exact hv.defs, by simp [hv.size], ?_, hv.dpre, ?_, ?_, ?_, ?_, hv.blt, hv.binj⟩
 ·intro k hk
  rw [hset k] at hk
  by_cases e : k = i
  ·rw [e]; exact hd
  ·rw [if_neg e] at hk; exact hv.sub k hk
 ·intro k u hk hu j hj
  rw [hset k] at hk
  rw [hset j]
  by_cases ej : j = i
  ·rw [if_pos ej]
  ·rw [if_neg ej]
   by_cases e : k = i
   ·subst e
    rw [hi] at hu
    obtain rfl := Option.some.inj hu
    exact hpre j hj
   ·rw [if_neg e] at hk; exact hv.lpre k u hk hu j hj
 ·intro k u hkd hu h3
  rw [hset k]
  by_cases e : k = i
  ·rw [if_pos e]
  ·rw [if_neg e]; exact hv.heavy k u hkd hu h3
 ·intro t x hx hc
  by_cases e : o.dst = some t
  ·have := hlook t e
   rw [hx] at this
   obtain rfl := Option.some.inj this
   have hlt : t < a.tmps.size := by rw [hv.kept.1]; exact hb o hmem t e
   refine ⟨v', ?_, hr⟩
   rw [e]
   simp [Act.put, hlt]
  ·obtain ⟨u, hu, hvu⟩ := hv.env t x hx fun k q hkd hkl hq => by
    by_cases ek : k = i
    ·subst ek
     rw [hi] at hq
     obtain rfl := Option.some.inj hq
     exact e
    ·exact hc k q hkd (by rw [hset k, if_neg ek]; exact hkl) hq
   exact ⟨u, by rw [put_get a o.dst v' t e]; exact hu, hvu.mono hle⟩
 ·intro k u hkd hkl hu
  rw [hset k] at hkl
  by_cases e : k = i
  ·rw [if_pos e] at hkl; cases hkl
  ·rw [if_neg e] at hkl
   exact (hv.pend k u hkd hkl hu).mono fun b hb' hn => hbl k b e hb' hn
theorem Inv.pending (hC : COk C) (hI : IOk C.P I) (hv : Inv C I ops φ0 A0 w0 a0 blk listed done fr φ A w a) (hb : ∀ o ∈ ops.toList, ∀ d, o.dst = some d → d < a0.tmps.size) (hso : slotsOk C ops.toList (befores ops.toList []) = true)
  {i : Nat} {o : Oper} (hi : ops.toList[i]? = some o) (hd : i ∈ done) (hl : listed.getD i false = false) (hpre : ∀ j ∈ predsOf o, listed.getD j false = true) {Q : Go.Exit → Act → World → Prop} {Kw : Act → World → Prop}
  (hK : ∀ φ' w1 a1, Inv C I ops φ0 A0 w0 a0 blk (listed.setIfInBounds i true) done fr φ' A w1 a1 → Kw a1 w1) : wpOpIn (Fw ro) 0 C.P ops Q i Kw a w := by
 have hf := hv.frOk
 have hag := hv.agree hso hi hpre
 have hi' : ops[i]? = some o := by simpa using hi
 unfold wpOpIn
 rw [hi']
 simp only
 obtain ⟨v, hlook, hp⟩ := hv.pend i o hd hl hi
 have still : stepV C I ops.toList o ⟨drop (pds ops.toList listed done) fr.env⟩ M.pure A = .ok v A → (if Region.wanted o (yielded ops a.tmps) = true then o.wpIn (Fw ro) 0 C.P a w Kw Q else (∀ f, o.about C.P w a.eval = some f → (Fw ro).fn f) ∧ Kw (a.put o.dst undef) w) := by
  intro hst
  have := stepV_sound (ro := ro) hC hI hst (by simp) hv.sim hf
  have next : ∀ a1 w1, OpNext C.P φ A w a o.dst (Res.ok v A) M.pure a1 w1 → Kw a1 w1 := by
   rintro a1 w1 ⟨v1, v', A', φ', h1, h2, rfl, h4, h5⟩
   have h1 : Res.ok v A = Res.ok v1 A' := h1
   injection h1 with e1 e2
   subst e1
   subst e2
   exact hK φ' w1 _ (hv.list hb hi hd hl hpre hlook h2 h4 (hv.onw.trans h5) h5.le fun k b _ hb' hn => (h5.virt b (hv.blt k b hb') hn).1)
  split
  ·rename_i hw
   rw [if_pos hw] at this
   exact ⟨this.1, uponIn_mono this.2 next fun e a1 w1 hp => by obtain ⟨_, v, u, A', φ', _, h, _⟩ := hp; cases h⟩
  ·rename_i hw
   rw [if_neg hw] at this
   exact ⟨this.1, next _ _ this.2⟩
 rcases hp with hp | ⟨hg, hp⟩ | ⟨hg, hk, b, vf, obj, hbl, rfl, hmk, hn0, hn, hget, hev⟩
 ·refine still ?_
  rw [stepV_congr hag]
  exact hp Value M.pure A
 ·refine still ?_
  rw [stepV_congr hag]
  unfold stepV
  rw [hg]
  exact hp.val M.pure
 ·
  have hev' : evOp C I o ⟨drop (pds ops.toList listed done) fr.env⟩ (M.pure (ρ := Value)) A = .ok (vf A.next) (A.alloc obj) := by
   rw [evOp_congr (fr' := fr) fun x hx => eval_congr fun t ht => hag t (mem_readsOf hx ht)]
   exact hev Value M.pure A
  obtain ⟨vf', obj', s, hmk', h1, ⟨oc, h2, h3⟩, h4⟩ := evOp_makes hk hev' (by simp) hf
  have h1 : Res.ok (vf A.next) (A.alloc obj) = Res.ok (vf' A.next) (A.alloc obj') := h1
  injection h1 with e1 e2
  have eo : obj = obj' := by
   have h9 : (A.alloc obj).get A.next = (A.alloc obj').get A.next := by rw [e2]
   simpa using h9
  subst eo
  obtain rfl := hmk.ext hmk' e1
  have hwant := guard_wanted (ops := ops) hf (by rw [guardSt_congr hag]; exact hg)
  rw [hwant, if_pos rfl]
  refine ⟨fun _ _ => trivial, ?_⟩
  rw [Oper.semAt_eq _ _ _ (evOp_noDefer (C := C) (I := I) (fr := ⟨drop (pds ops.toList listed done) fr.env⟩) (K := M.pure) (A := A) (by rw [hev']; simp)), h4]
  simp only [Sem.run_bind, h2 w, Result.andThen_ok, Sem.run_pure, Oper.uponIn]
  have hbA : b < A.next := hv.blt i b hbl
  refine hK (setPhi φ b (some (w.heap.size, 0))) _ _ (hv.list hb hi hd hl hpre hlook (hmk.vr (setPhi_same _ _ _)) (hv.sim.realize hn hbA hget h3 rfl) (hv.onw.realize hn hn0 rfl) (le_new _ hn) fun k b' hk' hb' hn' => ?_)
  have : b' ≠ b := fun e => hk' (hv.binj k i b (e ▸ hb') hbl)
  rw [setPhi_ne φ _ this]; exact hn'
theorem Inv.heavyStep (hC : COk C) (hI : IOk C.P I) (hv : Inv C I ops φ0 A0 w0 a0 blk listed done fr φ A w a) (hb : ∀ o ∈ ops.toList, ∀ d, o.dst = some d → d < a0.tmps.size) (hso : slotsOk C ops.toList (befores ops.toList []) = true)
  {i : Nat} {o : Oper} (hi : ops.toList[i]? = some o) (hk : opKind C o.op = 3) (hnd : i ∉ done) (hpre : ∀ j ∈ predsOf o, listed.getD j false = true) {Kc : Fr → M ρ} {r : Res ρ}
  (h : stepOp C I ops.toList o fr (fun fr => recheck C ops.toList fr (Kc fr) (done.filter fun j => Nat.beq (kindAt C ops.toList j) 1 && !waitsFor (befores ops.toList []) i j)) A = r) (hr : r ≠ .stuck)
  {Q : Go.Exit → Act → World → Prop} {Kw : Act → World → Prop}
  (hK : ∀ fr' φ' A' w1 a1, Inv C I ops φ0 A0 w0 a0 blk (listed.setIfInBounds i true) (i :: done) fr' φ' A' w1 a1 → Kc fr' A' = r → Kw a1 w1)
  (hQ : ∀ e a1 w1, OpPan C.P φ A w a r e a1 w1 → Q e a1 w1) : wpOpIn (Fw ro) 0 C.P ops Q i Kw a w := by
 have hf := hv.frOk
 have hag := hv.agree hso hi hpre
 have hi' : ops[i]? = some o := by simpa using hi
 have hmem : o ∈ ops.toList := List.mem_of_getElem? hi
 have hlt : i < listed.size := by
  rw [hv.size]
  have := (List.getElem?_eq_some_iff.1 hi).1
  simpa using this
 have hset := getD_set hlt
 unfold wpOpIn
 rw [hi']
 simp only
 rw [stepOp_stepV, ← stepV_congr hag] at h
 have hst := stepV_sound (ro := ro) hC hI h hr hv.sim hf
 have next : ∀ a1 w1, OpNext C.P φ A w a o.dst r (fun v => recheck C ops.toList ((nf ops.toList o fr).putDst o.dst v) (Kc ((nf ops.toList o fr).putDst o.dst v)) (done.filter fun j => Nat.beq (kindAt C ops.toList j) 1 && !waitsFor (befores ops.toList []) i j)) a1 w1 → Kw a1 w1 := by
  rintro a1 w1 ⟨v, v', A', φ', h1, h2, rfl, h4, h5⟩
  have hu := upd_nf (fr := fr) ops.toList o v
  have h1 := h1
  simp only at h1
  generalize (nf ops.toList o fr).putDst o.dst v = fr' at h1 hu
  obtain ⟨h1, hre⟩ := recheck_ok h1.symm hr
  refine hK fr' φ' A' w1 _ ?_ h1
  have hpn : ∀ k u, k ∈ done → listed.getD k false = false → ops.toList[k]? = some u → ∀ d, o.dst = some d → d ∉ readsOf ops.toList u ∧ u.dst ≠ some d := by
   intro k u hkd hkl hu' d hd
   have huk : opKind C u.op ≠ 3 := fun e => by rw [hv.heavy k u hkd hu' e] at hkl; cases hkl
   constructor
   ·rcases ((slots_all hso hu').2 i o hi d hd).1 hk with e | e | e | e | e
    ·exact absurd (e ▸ hkd) hnd
    ·exact absurd e huk
    ·exact e
    ·exact absurd (waits_closed (S := (· ∈ done)) (fun i o a b => hv.dpre i o a b) k (fun o' ho' => hv.dpre k o' hkd ho') e) hnd
    ·have := waits_closed (S := fun k => listed.getD k false = true) (fun i o a b => hv.lpre i o a b) i (fun o' ho' => by rw [hi] at ho'; obtain rfl := Option.some.inj ho'; exact hpre) e
     rw [hkl] at this; cases this
   ·intro e
    rcases (((slots_all hso hi).2 k u hu' d e).2 huk).2 with e' | e'
    ·exact absurd (e' ▸ hkd) hnd
    ·exact e' hd
  refine ⟨h4, hv.onw.trans h5, hv.glob.mono h5.le, hv.kept.trans (Kept.put _ _ _ _ fun d hd => ⟨o, hmem, hd⟩), by rw [put_defers]; exact hv.defs, by simp [hv.size], ?_, ?_, ?_, ?_, ?_, ?_, fun k b hb' => Nat.lt_of_lt_of_le (hv.blt k b hb') h5.next, hv.binj⟩
  ·intro k hk'
   rw [hset k] at hk'
   by_cases e : k = i
   ·rw [e]; simp
   ·rw [if_neg e] at hk'; exact List.mem_cons_of_mem _ (hv.sub k hk')
  ·intro k u hkd hu' j hj
   rcases List.mem_cons.1 hkd with e | hkd
   ·subst e
    rw [hi] at hu'
    obtain rfl := Option.some.inj hu'
    exact List.mem_cons_of_mem _ (hv.sub j (hpre j hj))
   ·exact List.mem_cons_of_mem _ (hv.dpre k u hkd hu' j hj)
  ·intro k u hk' hu' j hj
   rw [hset k] at hk'
   rw [hset j]
   by_cases ej : j = i
   ·rw [if_pos ej]
   ·rw [if_neg ej]
    by_cases e : k = i
    ·subst e
     rw [hi] at hu'
     obtain rfl := Option.some.inj hu'
     exact hpre j hj
    ·rw [if_neg e] at hk'; exact hv.lpre k u hk' hu' j hj
  ·intro k u hkd hu' h3
   rw [hset k]
   by_cases e : k = i
   ·rw [if_pos e]
   ·rw [if_neg e]
    rcases List.mem_cons.1 hkd with e' | hkd
    ·exact absurd e' e
    ·exact hv.heavy k u hkd hu' h3
  ·intro t x hx hc
   by_cases e : o.dst = some t
   ·rw [hu t, if_pos e] at hx
    obtain rfl := Option.some.inj hx
    have hlt : t < a.tmps.size := by rw [hv.kept.1]; exact hb o hmem t e
    refine ⟨v', ?_, h2⟩
    rw [e]
    simp [Act.put, hlt]
   ·rw [hu t, if_neg e] at hx
    obtain ⟨y, hy, hxy⟩ := hv.env t x hx fun k q hkd hkl hq => by
     have ek : k ≠ i := fun e => hnd (e ▸ hkd)
     exact hc k q (List.mem_cons_of_mem _ hkd) (by rw [hset k, if_neg ek]; exact hkl) hq
    exact ⟨y, by rw [put_get a o.dst v' t e]; exact hy, hxy.mono h5.le⟩
  ·intro k u hkd hkl hu'
   rw [hset k] at hkl
   by_cases ek : k = i
   ·rw [if_pos ek] at hkl; cases hkl
   rw [if_neg ek] at hkl
   rcases List.mem_cons.1 hkd with e' | hkd
   ·exact absurd e' ek
   have hn := hpn k u hkd hkl hu'
   have hag' : Agree (readsOf ops.toList u) fr' fr := agree_upd hu fun d e => (hn d e).1
   have hlk : ∀ d, u.dst = some d → look d fr'.env = look d fr.env := fun d e => by rw [hu d, if_neg fun e' => (hn d e').2 e]
   obtain ⟨x, g1, g2⟩ := hv.pend k u hkd hkl hu'
   refine ⟨x, fun d e => by rw [hlk d e]; exact g1 d e, ?_⟩
   rcases g2 with g2 | ⟨g2, g3⟩ | ⟨g2, g3, b, vf, obj, q4, q5, q6, q7, q9, q10, q11⟩
   ·exact .inl fun ρ K A' => by rw [stepV_congr hag']; exact g2 ρ K A'
   ·right; left
    refine ⟨by rw [guardSt_congr hag']; exact g2, ?_⟩
    have hk1 : Nat.beq (kindAt C ops.toList k) 1 = true := by
     obtain ⟨t, y, p, n, z, ho', _⟩ := g3
     unfold kindAt
     rw [hu']
     simp only [ho', opKind]
     rfl
    have hnw : waitsFor (befores ops.toList []) i k = false := by
     cases e : waitsFor (befores ops.toList []) i k
     ·rfl
     ·have := waits_closed (S := fun k => listed.getD k false = true) (fun i o a b => hv.lpre i o a b) i (fun o' ho' => by rw [hi] at ho'; obtain rfl := Option.some.inj ho'; exact hpre) e
      rw [hkl] at this; cases this
    obtain ⟨u2, hu2, hcase⟩ := hre k (List.mem_filter.2 ⟨hkd, by rw [hk1, hnw]; rfl⟩)
    rw [hu'] at hu2
    obtain rfl := Option.some.inj hu2
    rcases hcase with hc | ⟨_, d, v2, hd, hl2, hL⟩
    ·rw [guardSt_congr hag', g2] at hc; cases hc
    ·rw [hlk d hd, g1 d hd] at hl2
     obtain rfl := Option.some.inj hl2
     exact hL
   ·right; right
    have hbA := hv.blt k b q4
    obtain ⟨z1, z2⟩ := h5.virt b hbA q9
    refine ⟨by rw [guardSt_congr hag']; exact g2, g3, b, vf, obj, q4, q5, q6, q7, z1, by rw [z2]; exact q10, fun ρ K A' => ?_⟩
    rw [evOp_congr (fr := fr') (fr' := fr) fun x hx => eval_congr fun t ht => hag' t (mem_readsOf hx ht)]
    exact q11 ρ K A'
 split
 ·rename_i hw
  rw [if_pos hw] at hst
  exact ⟨hst.1, uponIn_mono hst.2 next hQ⟩
 ·rename_i hw
  rw [if_neg hw] at hst
  exact ⟨hst.1, next _ _ hst.2⟩
def Rest (C : Cfg) (I : Interp) (ops : List Oper) (K : Fr → M ρ) (done : List Nat) (fr : Fr) (A : AW) (r : Res ρ) : Prop :=
 (readyNow ops done = [] ∧ K fr A = r) ∨ ∃ n h o, readyNow ops done = [h] ∧ ops[h]? = some o ∧ opKind C o.op = 3 ∧
  stepOp C I ops o fr (fun fr => recheck C ops fr (evDraw C I ops (befores ops []) K n (h :: done) fr) (done.filter fun j => Nat.beq (kindAt C ops j) 1 && !waitsFor (befores ops []) h j)) A = r
theorem rest (hso : slotsOk C ops.toList (befores ops.toList []) = true) {K : Fr → M ρ} {r : Res ρ} (hr : r ≠ .stuck) : ∀ (n : Nat) (blk : Nat → Option Nat) (done : List Nat) (fr : Fr) (A : AW), Inv C I ops φ0 A0 w0 a0 blk listed done fr φ A w a →
  evDraw C I ops.toList (befores ops.toList []) K n done fr A = r → ∃ blk' done' fr' A', Inv C I ops φ0 A0 w0 a0 blk' listed done' fr' φ A' w a ∧ Rest C I ops.toList K done' fr' A' r
 | 0, blk, done, fr, A, hv, h => by
  simp only [evDraw] at h
  cases hn : readyNow ops.toList done with
  | nil => rw [hn] at h; exact ⟨blk, done, fr, A, hv, .inl ⟨hn, h⟩⟩
  | cons x l => rw [hn] at h; exact absurd h.symm hr
 | n + 1, blk, done, fr, A, hv, h => by
  simp only [evDraw] at h
  cases hf : (readyNow ops.toList done).find? (fun i => !Nat.beq (kindAt C ops.toList i) 3) with
  | some i =>
   rw [hf] at h
   obtain ⟨o, ho, hnd, hpre⟩ := mem_readyNow.1 (List.mem_of_find?_eq_some hf)
   have hk := List.find?_some hf
   have hk : opKind C o.op ≠ 3 := fun e => by
    simp only [kindAt, ho, e] at hk
    cases hk
   simp only [ho] at h
   obtain ⟨blk', fr', A', h', hv'⟩ := hv.light hso ho hk hnd hpre h hr
   exact rest hso hr n blk' (i :: done) fr' A' hv' h'
  | none =>
   rw [hf] at h
   simp only at h
   cases hn : readyNow ops.toList done with
   | nil => rw [hn] at h; exact ⟨blk, done, fr, A, hv, .inl ⟨hn, h⟩⟩
   | cons x l =>
    rw [hn] at h
    cases l with
    | cons y l => exact absurd h.symm hr
    | nil =>
     simp only at h
     obtain ⟨o, ho, hnd, hpre⟩ := mem_readyNow.1 (show x ∈ readyNow ops.toList done by rw [hn]; simp)
     rw [ho] at h
     have hk := List.find?_eq_none.1 hf x (by rw [hn]; simp)
     have hk : opKind C o.op = 3 := by
      simp only [kindAt, ho, Bool.not_eq_true', Bool.not_eq_false] at hk
      exact Nat.eq_of_beq_eq_true hk
     exact ⟨blk, done, fr, A, hv, .inr ⟨n, x, o, hn, ho, hk, h⟩⟩
theorem cnt_lt {p q : Nat → Bool} (hpq : ∀ x, q x = true → p x = true) {i : Nat} (hp : p i = true) (hq : q i = false) : ∀ {l : List Nat}, i ∈ l → (l.filter q).length < (l.filter p).length
 | [], h => by cases h
 | x :: l, h => by
  have le : ∀ l : List Nat, (l.filter q).length ≤ (l.filter p).length := fun l => by
   induction l with
   | nil => exact Nat.le_refl _
   | cons y l ih =>
    simp only [List.filter_cons]
    by_cases e : q y = true
    ·rw [if_pos e, if_pos (hpq y e)]; simp; omega
    ·rw [if_neg e]
     split
     ·simp; omega
     ·exact ih
  simp only [List.filter_cons]
  rcases List.mem_cons.1 h with e | h
  ·subst e
   rw [if_pos hp, if_neg (by rw [hq]; simp)]
   have := le l
   simp; omega
  ·have := cnt_lt hpq hp hq h
   by_cases e : q x = true
   ·rw [if_pos e, if_pos (hpq x e)]; simp; omega
   ·rw [if_neg e]
    split
    ·simp; omega
    ·exact this
def left (ops : Array Oper) (listed : Array Bool) : Nat := ((List.range ops.size).filter fun i => !listed.getD i false).length
theorem Inv.all (hv : Inv C I ops φ0 A0 w0 a0 blk listed done fr φ A w a) (hso : slotsOk C ops.toList (befores ops.toList []) = true) (h : Region.ready .any ops listed = []) : ∀ i, i < ops.size → listed.getD i false = true := by
 intro i
 induction i using Nat.strongRecOn with
 | _ i ih =>
  intro hlt
  cases e : listed.getD i false with
  | true => rfl
  | false =>
   exfalso
   have hm : i ∈ Region.ready .any ops listed := by
    rw [mem_ready]
    refine ⟨?_, ops[i], by simp [hlt], fun ed hed hbi => ?_⟩
    ·have hl : i < listed.size := by rw [hv.size]; exact hlt
     simp [hl] at e ⊢
     exact e
    ·have hj : ed.on ∈ predsOf ops[i] := mem_predsOf.2 ⟨ed, hed, hbi, rfl⟩
     have hji := (slots_all hso (show ops.toList[i]? = some ops[i] by simp [hlt])).1 _ hj
     exact ih _ hji (by omega)
   rw [h] at hm; cases hm
theorem machine (hC : COk C) (hI : IOk C.P I) (hb : ∀ o ∈ ops.toList, ∀ d, o.dst = some d → d < a0.tmps.size) (hso : slotsOk C ops.toList (befores ops.toList []) = true) {D : DInv} (hD : Stays D) (hm0 : D φ0 w0 a0.defers) {K : Fr → M ρ} {r : Res ρ} (hr : r ≠ .stuck) :
  ∀ (m : Nat) (listed : Array Bool) (blk : Nat → Option Nat) (done : List Nat) (fr : Fr) (φ : Phi) (A : AW) (w : World) (a : Act), Inv C I ops φ0 A0 w0 a0 blk listed done fr φ A w a → Rest C I ops.toList K done fr A r → left ops listed ≤ m →
   wpAnyIn (Fw ro) 0 C.P .any ops (RPost D C.P φ0 A0 w0 a0 (wrOps ops) r K) m listed a w := by
 have fin : ∀ (listed : Array Bool) (blk : Nat → Option Nat) (done : List Nat) (fr : Fr) (φ : Phi) (A : AW) (w : World) (a : Act), Inv C I ops φ0 A0 w0 a0 blk listed done fr φ A w a → Rest C I ops.toList K done fr A r → Region.ready .any ops listed = [] →
   RPost D C.P φ0 A0 w0 a0 (wrOps ops) r K .normal a w := by
  intro listed blk done fr φ A w a hv hre hready
  have hall := hv.all hso hready
  have hlt : ∀ i o, ops.toList[i]? = some o → i < ops.size := fun i o h => by simpa using (List.getElem?_eq_some_iff.1 h).1
  rcases hre with ⟨_, hK⟩ | ⟨n, h, o, hn, ho, _⟩
  ·refine ⟨φ, A, hv.sim, hv.onw, by rw [hv.defs]; exact hD.onw hm0 hv.onw, .inl ⟨fr, rfl, hK.symm, ⟨fun t v hv' => hv.env t v hv' fun i o _ hl ho => ?_, hv.glob⟩, hv.kept⟩⟩
   rw [hall i (hlt i o ho)] at hl; cases hl
  ·obtain ⟨o', ho', hnd, _⟩ := mem_readyNow.1 (show h ∈ readyNow ops.toList done by rw [hn]; simp)
   exact absurd (hv.sub h (hall h (hlt h o' ho'))) hnd
 intro m
 induction m with
 | zero =>
  intro listed blk done fr φ A w a hv hre hle
  have hready : Region.ready .any ops listed = [] := by
   cases e : Region.ready .any ops listed with
   | nil => rfl
   | cons x l =>
    exfalso
    obtain ⟨h1, o, h2, _⟩ := mem_ready.1 (show x ∈ Region.ready .any ops listed by rw [e]; simp)
    have hx : x < ops.size := (Array.getElem?_eq_some_iff.1 h2).1
    have hxl : x < listed.size := by rw [hv.size]; exact hx
    have : x ∈ (List.range ops.size).filter fun i => !listed.getD i false := by
     rw [List.mem_filter, List.mem_range]
     refine ⟨hx, ?_⟩
     simp [hxl] at h1 ⊢
     exact h1
    have := List.length_pos_of_mem this
    unfold left at hle
    omega
  exact ⟨hready, fin listed blk done fr φ A w a hv hre hready⟩
 | succ m ih =>
  intro listed blk done fr φ A w a hv hre hle
  refine ⟨fin listed blk done fr φ A w a hv hre, fun i hi => ?_⟩
  obtain ⟨h1, o, h2, h3⟩ := mem_ready.1 hi
  have hx : i < ops.size := (Array.getElem?_eq_some_iff.1 h2).1
  have hxl : i < listed.size := by rw [hv.size]; exact hx
  have hl : listed.getD i false = false := by simp [hxl] at h1 ⊢; exact h1
  have hi' : ops.toList[i]? = some o := by simpa using h2
  have hpre : ∀ j ∈ predsOf o, listed.getD j false = true := fun j hj => by
   obtain ⟨e, he, hbi, rfl⟩ := mem_predsOf.1 hj
   exact h3 e he hbi
  have hle' : left ops (listed.setIfInBounds i true) ≤ m := by
   have : left ops (listed.setIfInBounds i true) < left ops listed := by
    refine cnt_lt (i := i) (fun x hx' => ?_) (by rw [hl]; rfl) (by rw [getD_set hxl i, if_pos rfl]; rfl) (List.mem_range.2 hx)
    rw [getD_set hxl x] at hx'
    by_cases e : x = i
    ·rw [if_pos e] at hx'; cases hx'
    ·rw [if_neg e] at hx'; exact hx'
   omega
  by_cases hd : i ∈ done
  ·exact hv.pending hC hI hb hso hi' hd hl hpre fun φ' w1 a1 hv' => ih _ blk done fr φ' A w1 a1 hv' hre hle'
  ·have hrdy : i ∈ readyNow ops.toList done := mem_readyNow.2 ⟨o, hi', hd, fun j hj => hv.sub j (hpre j hj)⟩
   rcases hre with ⟨hn, _⟩ | ⟨n, h, o', hn, ho, hk, hstep⟩
   ·rw [hn] at hrdy; cases hrdy
   ·rw [hn] at hrdy
    have : i = h := by simpa using hrdy
    subst this
    rw [hi'] at ho
    obtain rfl := Option.some.inj ho
    refine hv.heavyStep (Kc := fun fr => evDraw C I ops.toList (befores ops.toList []) K n (i :: done) fr) hC hI hb hso hi' hk hd hpre hstep hr (fun fr' φ' A' w1 a1 hv' h' => ?_) ?_
    ·obtain ⟨blk2, done2, fr2, A2, hv2, hre2⟩ := rest hso hr n blk (i :: done) fr' A' hv' h'
     exact ih _ blk2 done2 fr2 φ' A2 w1 a1 hv2 hre2 hle'
    ·rintro e a1 w1 ⟨rfl, v, u, A', φ', rfl, h2, h3, h4, h5⟩
     exact ⟨φ', A', h4, hv.onw.trans h5, by rw [hv.defs]; exact hD.onw hm0 (hv.onw.trans h5), .inr ⟨v, u, rfl, h3, h2, hv.kept⟩⟩
theorem evDraw_sound (hC : COk C) (hI : IOk C.P I) {id : Nat} {K : Fr → M ρ} {r : Res ρ} {D : DInv} (hD : Stays D) (hb : ∀ o ∈ ops.toList, ∀ d, o.dst = some d → d < a.tmps.size) (hso : slotsOk C ops.toList (befores ops.toList []) = true)
  (h : evDraw C I ops.toList (befores ops.toList []) K ops.toList.length [] fr A = r) (hr : r ≠ .stuck) (hs : Sim C.P φ A w) (hf : FrOk C.P φ fr a) (hm : D φ w a.defers) :
  (Code.region id ops true).wpIn (Fw ro) 0 C.P (RPost D C.P φ A w a (wrOps ops) r K) a w := by
 refine wpIn_region_any hC.mixed ?_
 have hfalse : ∀ i, (Array.replicate ops.size false).getD i false = false := fun i => by
  simp [Array.getD_eq_getD_getElem?, Array.getElem?_replicate]
  split <;> rfl
 have hv : Inv C I ops φ A w a (fun _ => none) (Array.replicate ops.size false) [] fr φ A { w with drawn := w.drawn + 1 } a :=
  ⟨hs.heap rfl, (Onw.refl φ A w).heap rfl rfl, hf.glob, Kept.refl _ _, rfl, by simp, fun i h => (by rw [hfalse] at h; cases h), fun i o h => (by cases h), fun i o h => (by rw [hfalse] at h; cases h), fun i o h => (by cases h),
   fun t v ht _ => hf.env t v ht, fun i o h => (by cases h), fun i b h => (by cases h), fun i j b h => (by cases h)⟩
 obtain ⟨blk, done, fr', A', hv', hre⟩ := rest hso hr ops.toList.length (fun _ => none) [] fr A hv h
 exact machine hC hI hb hso hD hm hr ops.size _ blk done fr' φ A' _ a hv' hre (by
  unfold left
  have := List.length_filter_le (fun i => !(Array.replicate ops.size false).getD i false) (List.range ops.size)
  simpa using this)
end
end Go.Eng
