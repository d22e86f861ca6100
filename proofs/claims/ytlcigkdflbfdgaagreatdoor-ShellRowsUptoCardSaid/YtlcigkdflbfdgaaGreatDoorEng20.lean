/-
 The engine, part 20: what a function of the program comes to over an abstract heap; each part is proved against the model.
-/
import Derived.Test.YtlcigkdflbfdgaaGreatDoorEng19
namespace Go.Eng
open Go
section
variable {C : Cfg} {I : Interp} {P : Program} {fr fr' : Fr} {ρ : Type}
def Agree (l : List Nat) (fr fr' : Fr) : Prop := ∀ t ∈ l, look t fr.env = look t fr'.env
theorem eval_congr {x : Operand} (h : ∀ t ∈ slotOf x, look t fr.env = look t fr'.env) : fr.eval P x = fr'.eval P x := by
 cases x with
 | tmp t => exact h t (by simp [slotOf])
 | _ => rfl
theorem evals_congr : ∀ {l : List Operand}, (∀ x ∈ l, fr.eval P x = fr'.eval P x) → evals P fr l = evals P fr' l
 | [], _ => rfl
 | x :: l, h => by simp only [evals, h x (by simp), evals_congr (l := l) (fun y hy => h y (by simp [hy]))]
theorem evalParts_congr : ∀ {l : List (Nat × Operand)}, (∀ x ∈ l, fr.eval P x.2 = fr'.eval P x.2) → evalParts P fr l = evalParts P fr' l
 | [], _ => rfl
 | (i, x) :: l, h => by simp only [evalParts, h (i, x) (by simp), evalParts_congr (l := l) (fun y hy => h y (by simp [hy]))]
theorem evalOpt_congr {x : Option Operand} (h : ∀ y, x = some y → fr.eval P y = fr'.eval P y) : evalOpt P fr x = evalOpt P fr' x := by
 cases x with
 | none => rfl
 | some y => simp only [evalOpt, h y rfl]
theorem evOp_congr {o : Oper} {K : Value → M ρ} (h : ∀ x ∈ o.op.operands.toList, fr.eval C.P x = fr'.eval C.P x) : evOp C I o fr K = evOp C I o fr' K := by
 unfold evOp
 cases ho : o.op with
 | pick c a b =>
  rw [ho] at h
  simp only [h c (by simp [Op.operands]), h a (by simp [Op.operands]), h b (by simp [Op.operands])]
 | build t ps =>
  rw [ho] at h
  simp only [evalParts_congr (fr := fr) (fr' := fr') (P := C.P) (l := ps.toList) (fun x hx => h x.2 (by simp [Op.operands]; exact ⟨x.1, by simpa using hx⟩))]
 | buildSlice t n ps =>
  rw [ho] at h
  simp only [evalParts_congr (fr := fr) (fr' := fr') (P := C.P) (l := ps.toList) (fun x hx => h x.2 (by simp [Op.operands]; exact ⟨x.1, by simpa using hx⟩))]
 | makeFunc f a b =>
  rw [ho] at h
  simp only [evals_congr (fr := fr) (fr' := fr') (P := C.P) (l := a.toList) (fun x hx => h x (by simp [Op.operands]; exact .inl (by simpa using hx))),
   evals_congr (fr := fr) (fr' := fr') (P := C.P) (l := b.toList) (fun x hx => h x (by simp [Op.operands]; exact .inr (by simpa using hx)))]
 | makeMap t x =>
  rw [ho] at h
  simp only
  generalize C.P.underlying t = d
  cases x with
  | none => cases d <;> rfl
  | some x =>
   have hx := h x (by simp [Op.operands])
   cases d with
   | none => rfl
   | some d => cases d <;> first | rfl | simp only [hx]
 | slice t x lo hi mx =>
  rw [ho] at h
  simp only [h x (by simp [Op.operands]), evalOpt_congr (fr := fr) (fr' := fr') (P := C.P) (x := lo) (fun y hy => h y (by subst hy; simp [Op.operands])),
   evalOpt_congr (fr := fr) (fr' := fr') (P := C.P) (x := hi) (fun y hy => h y (by subst hy; simp [Op.operands])),
   evalOpt_congr (fr := fr) (fr' := fr') (P := C.P) (x := mx) (fun y hy => h y (by subst hy; simp [Op.operands]))]
 | call c =>
  rw [ho] at h
  simp only [evals_congr (fr := fr) (fr' := fr') (P := C.P) (l := c.args.toList) (fun x hx => h x (by simp [Op.operands, Call.operands]; exact .inr (by simpa using hx)))]
  generalize evals C.P fr' c.args.toList = args
  cases hc : c.callee with
  | value f =>
   have hx := h f (by simp [Op.operands, Call.operands, hc])
   cases args <;> cases f <;> first | rfl | simp only [hx]
  | invoke r n =>
   have hx := h r (by simp [Op.operands, Call.operands, hc])
   cases args <;> first | rfl | simp only [hx]
  | builtin b => cases args <;> rfl
 | store t x y => rw [ho] at h; simp only [h x (by simp [Op.operands]), h y (by simp [Op.operands])]
 | binOp _ _ x y _ => rw [ho] at h; simp only [h x (by simp [Op.operands]), h y (by simp [Op.operands])]
 | makeSlice t x y => rw [ho] at h; simp only [h x (by simp [Op.operands]), h y (by simp [Op.operands])]
 | indexAddr t x y => rw [ho] at h; simp only [h x (by simp [Op.operands]), h y (by simp [Op.operands])]
 | index t x y => rw [ho] at h; simp only [h x (by simp [Op.operands]), h y (by simp [Op.operands])]
 | lookup t x y ok => rw [ho] at h; simp only [h x (by simp [Op.operands]), h y (by simp [Op.operands])]
 | mapUpdate t x y z => rw [ho] at h; simp only [h x (by simp [Op.operands]), h y (by simp [Op.operands]), h z (by simp [Op.operands])]
 | insert t x y z => rw [ho] at h; simp only [h x (by simp [Op.operands]), h y (by simp [Op.operands]), h z (by simp [Op.operands])]
 | alloc e => simp only
 | ready _ => simp only
 | waits _ => simp only
 | move x => rw [ho] at h; simp only [h x (by simp [Op.operands])]
 | assign x => rw [ho] at h; simp only [h x (by simp [Op.operands])]
 | box e x => rw [ho] at h; simp only [h x (by simp [Op.operands])]
 | load t x => rw [ho] at h; simp only [h x (by simp [Op.operands])]
 | nilCheck x => rw [ho] at h; simp only [h x (by simp [Op.operands])]
 | unOp _ _ x => rw [ho] at h; simp only [h x (by simp [Op.operands])]
 | convert _ _ x => rw [ho] at h; simp only [h x (by simp [Op.operands])]
 | makeInterface t x => rw [ho] at h; simp only [h x (by simp [Op.operands])]
 | fieldAddr s x f => rw [ho] at h; simp only [h x (by simp [Op.operands])]
 | field s x f => rw [ho] at h; simp only [h x (by simp [Op.operands])]
 | range t x => rw [ho] at h; simp only [h x (by simp [Op.operands])]
 | next x s => rw [ho] at h; simp only [h x (by simp [Op.operands])]
 | extract x i => rw [ho] at h; simp only [h x (by simp [Op.operands])]
 | typeAssert x _ _ _ => rw [ho] at h; simp only [h x (by simp [Op.operands])]
 | panic x => rw [ho] at h; simp only [h x (by simp [Op.operands])]
 | _ => simp only
noncomputable def stepV (C : Cfg) (I : Interp) {ρ : Type} (ops : List Oper) (o : Oper) (fr : Fr) (K : Value → M ρ) : M ρ := match guardSt ops o fr with
 | none => M.stuck
 | some true => evOp C I o fr K
 | some false => K undef
def nf (ops : List Oper) (o : Oper) (fr : Fr) : Fr := match o.guard with
 | none => fr
 | some (j, _) => match (ops[j]?).bind (·.dst) with
  | none => fr
  | some d => match look d fr.env with
   | some (.bool b) => fr.set d (.bool b)
   | _ => fr
theorem stepOp_stepV {ops : List Oper} {o : Oper} {K : Fr → M ρ} : stepOp C I ops o fr K = stepV C I ops o fr (fun v => K ((nf ops o fr).putDst o.dst v)) := by
 unfold stepOp stepV nf guardSt
 cases hg : o.guard with
 | none => rfl
 | some jw =>
  obtain ⟨j, want⟩ := jw
  simp only
  cases hd : (ops[j]?).bind (·.dst) with
  | none => rfl
  | some d =>
   simp only
   cases hl : look d fr.env with
   | none => rfl
   | some v => cases v <;> first | rfl | (rename_i b; cases b <;> cases want <;> rfl)
theorem look_nf {ops : List Oper} {o : Oper} (t : Nat) : look t (nf ops o fr).env = look t fr.env := by
 unfold nf
 cases hg : o.guard with
 | none => rfl
 | some jw =>
  obtain ⟨j, want⟩ := jw
  simp only
  cases hd : (ops[j]?).bind (·.dst) with
  | none => rfl
  | some d =>
   simp only
   cases hl : look d fr.env with
   | none => rfl
   | some v =>
    cases v <;> first | rfl | skip
    simp only [Fr.set, look_cons]
    by_cases e : d = t
    ·subst e; simp [hl]
    ·simp [e]
theorem upd_nf (ops : List Oper) (o : Oper) (v : Value) : Upd fr o.dst v ((nf ops o fr).putDst o.dst v) := fun t => by rw [Upd.put (nf ops o fr) o.dst v t, look_nf]
theorem mem_readsOf {ops : List Oper} {o : Oper} {x : Operand} (hx : x ∈ o.op.operands.toList) {t : Nat} (ht : t ∈ slotOf x) : t ∈ readsOf ops o := by
 unfold readsOf
 rw [List.mem_append, List.mem_flatMap]
 exact .inl ⟨x, hx, ht⟩
theorem guardSt_congr {ops : List Oper} {o : Oper} (h : Agree (readsOf ops o) fr fr') : guardSt ops o fr = guardSt ops o fr' := by
 unfold guardSt
 cases hg : o.guard with
 | none => rfl
 | some jw =>
  obtain ⟨j, want⟩ := jw
  simp only
  cases hd : (ops[j]?).bind (·.dst) with
  | none => rfl
  | some d =>
   have : look d fr.env = look d fr'.env := h d (by unfold readsOf; rw [hg]; simp only [hd]; simp)
   simp only [this]
theorem stepV_congr {ops : List Oper} {o : Oper} {K : Value → M ρ} (h : Agree (readsOf ops o) fr fr') : stepV C I ops o fr K = stepV C I ops o fr' K := by
 unfold stepV
 rw [guardSt_congr h, evOp_congr (C := C) (I := I) (fr := fr) (fr' := fr') (fun x hx => eval_congr fun t ht => h t (mem_readsOf hx ht))]
theorem aEql_unif (t : TypeId) (cx cy : Bool) (x y : Value) {F : Bool → Value} (h1 : ∀ e, P.underlying t ≠ some (.pointer e)) : Unif (fun _ K => aEql P t cx cy x y fun b => K (F b)) := by
 unfold aEql
 cases x <;> cases y <;> try (exact .none fun _ _ => rfl)
 case bool.bool => generalize P.underlying t = d; cases d with
  | none => exact .none fun _ _ => rfl
  | some d => cases d <;> first | exact .none fun _ _ => rfl | exact .val _ fun _ _ => rfl
 case int.int => exact Unif.guard _ (.val _ fun _ _ => rfl)
 case string.string => exact .val _ fun _ _ => rfl
 case agg.agg => exact Unif.guard _ (.val _ fun _ _ => rfl)
 case pointer.pointer =>
  generalize P.underlying t = d at h1
  cases d with
  | none => exact .none fun _ _ => rfl
  | some d => cases d <;> first | exact absurd rfl (h1 _) | exact .none fun _ _ => rfl
 case slice.slice =>
  rename_i a _ _ b _ _
  generalize P.underlying t = d
  cases d with
  | none => exact .none fun _ _ => rfl
  | some d => cases d <;> first | exact .none fun _ _ => rfl | (cases a <;> cases b <;> first | exact .none fun _ _ => rfl | exact .val _ fun _ _ => rfl)
 case map.map =>
  rename_i a b
  generalize P.underlying t = d
  cases d with
  | none => exact .none fun _ _ => rfl
  | some d => cases d <;> first | exact .none fun _ _ => rfl | (cases a <;> cases b <;> first | exact .none fun _ _ => rfl | exact .val _ fun _ _ => rfl)
 case nilIface.nilIface =>
  generalize P.underlying t = d
  cases d with
  | none => exact .none fun _ _ => rfl
  | some d => cases d <;> first | exact Unif.guard _ (.val _ fun _ _ => rfl) | exact .none fun _ _ => rfl
 all_goals
  generalize P.underlying t = d
  cases d with
  | none => exact .none fun _ _ => rfl
  | some d => cases d <;> first | exact .none fun _ _ => rfl | exact .val _ fun _ _ => rfl
theorem aBin_unif (op : BinOp) (t : TypeId) (cx cy : Bool) (x y : Value) (h : (op = .eql ∨ op = .neq) → ∀ e, P.underlying t ≠ some (.pointer e)) : Unif (fun _ K => aBin P op t cx cy x y K) := by
 unfold aBin
 cases op <;> first | exact aArith_unif _ _ _ | exact aEql_unif t cx cy x y (h (.inl rfl)) | exact aEql_unif t cx cy x y (h (.inr rfl))
theorem aConvert_unif (s d : TypeId) (v : Value) {k l : IntKind} (hs : P.underlying s = some (.int k)) (hd : P.underlying d = some (.int l)) : Unif (fun _ K => aConvert P s d v K) := by
 unfold aConvert
 rw [hs, hd]
 simp only
 cases v <;> first | exact .none fun _ _ => rfl | exact .val _ fun _ _ => rfl
theorem evOp_unif {o : Oper} (h : opKind C o.op = 0) : Unif (fun ρ K => evOp C I (ρ := ρ) o fr K) := by
 unfold evOp
 cases ho : o.op <;> rw [ho] at h <;> simp only [opKind, reduceCtorEq] at h <;> simp only
 case move x => exact Unif.need _ fun v => .val v fun _ _ => rfl
 case pick c a b =>
  generalize fr.eval C.P c = vc
  cases vc with
  | none => exact .none fun _ _ => rfl
  | some vc =>
   cases vc <;> try (exact .none fun _ _ => rfl)
   rename_i t
   cases t
   ·exact Unif.need (fr.eval C.P b) fun v => .val v fun _ _ => rfl
   ·exact Unif.need (fr.eval C.P a) fun v => .val v fun _ _ => rfl
 case build t ps =>
  refine Unif.need _ fun v => Unif.condS _ (aBuild_unif _ _)
 case nilCheck x =>
  generalize fr.eval C.P x = v
  cases v with
  | none => exact .none fun _ _ => rfl
  | some v =>
   cases v <;> try (exact .none fun _ _ => rfl)
   case pointer p => exact Unif.deref p fun a => .val _ fun _ _ => rfl
   case func f a b => cases f <;> first | exact .none fun _ _ => rfl | exact .val _ fun _ _ => rfl
   case iface t v => exact .val _ fun _ _ => rfl
 case binOp op t x y yt =>
  generalize fr.eval C.P x = vx
  generalize fr.eval C.P y = vy
  cases vx with
  | none => exact .none fun _ _ => rfl
  | some vx =>
   cases vy with
   | none => exact .none fun _ _ => rfl
   | some vy =>
    refine aBin_unif op t _ _ vx vy ?_
    rintro (rfl | rfl) e he
    ·simp [he] at h
    ·simp [he] at h
 case unOp op t x => exact Unif.need _ fun v => aUn_unif _ _
 case convert s d x =>
  cases hs : C.P.underlying s with
  | none => rw [hs] at h; simp at h
  | some ds =>
   cases hd : C.P.underlying d with
   | none => rw [hs, hd] at h; cases ds <;> simp at h
   | some dd =>
    rw [hs, hd] at h
    cases ds <;> cases dd <;> simp at h
    exact Unif.need _ fun v => aConvert_unif s d v hs hd
 case makeInterface t x =>
  generalize C.P.underlying t = d
  cases d with
  | none => exact .none fun _ _ => rfl
  | some d => cases d <;> first | exact .none fun _ _ => rfl | exact Unif.need _ fun v => .val _ fun _ _ => rfl
 case makeFunc f a b =>
  cases f <;> first | exact .none fun _ _ => rfl | exact Unif.need _ fun v => Unif.need _ fun u => .val _ fun _ _ => rfl
 case slice t x lo hi mx =>
  generalize fr.eval C.P x = v
  generalize evalOpt C.P fr lo = a
  generalize evalOpt C.P fr hi = b
  generalize evalOpt C.P fr mx = c
  cases v with
  | none => exact .none fun _ _ => rfl
  | some v =>
   cases a with
   | none => exact .none fun _ _ => rfl
   | some a =>
    cases b with
    | none => exact .none fun _ _ => rfl
    | some b =>
     cases c with
     | none => exact .none fun _ _ => rfl
     | some c => exact aSlice_unif t v a b c
 case fieldAddr s x f => exact Unif.need _ fun v => aFieldAddr_unif s v f
 case field s x f => exact Unif.need _ fun v => aField_unif s v f
 case indexAddr t x y =>
  generalize fr.eval C.P x = vx
  generalize fr.eval C.P y = vy
  cases vx with
  | none => exact .none fun _ _ => rfl
  | some vx =>
   cases vy with
   | none => exact .none fun _ _ => rfl
   | some vy => exact aIndexAddr_unif t vx vy
 case index t x y =>
  generalize fr.eval C.P x = vx
  generalize fr.eval C.P y = vy
  cases vx with
  | none => exact .none fun _ _ => rfl
  | some vx =>
   cases vy with
   | none => exact .none fun _ _ => rfl
   | some vy => exact aIndex_unif t vx vy
 case typeAssert x xt t ok => exact Unif.need _ fun v => aTypeAssert_unif v t ok
 case extract x i => exact Unif.need _ fun v => aExtract_unif v i
 case call c =>
  generalize hargs : evals C.P fr c.args.toList = args
  cases hc : c.callee with
  | value f => rw [hc] at h; simp at h
  | invoke r n => rw [hc] at h; simp at h
  | builtin b =>
   rw [hc] at h
   cases args with
   | none => exact .none fun _ _ => rfl
   | some args =>
    cases b <;> simp at h
    case len =>
     unfold aBuiltin
     simp only
     cases ht : c.argTypes[0]? with
     | none => exact .none fun _ _ => rfl
     | some t =>
      match args with
      | [] => exact .none fun _ _ => rfl
      | [v] =>
       refine aLen_unif t v fun k e hm => ?_
       rw [ht] at h
       simp [hm] at h
      | _ :: _ :: _ => exact .none fun _ _ => rfl
    case min =>
     unfold aBuiltin
     simp only
     match args with
     | [] => exact .none fun _ _ => rfl
     | v :: l => exact Unif.need _ fun v => .val v fun _ _ => rfl
    case max =>
     unfold aBuiltin
     simp only
     match args with
     | [] => exact .none fun _ _ => rfl
     | v :: l => exact Unif.need _ fun v => .val v fun _ _ => rfl
theorem peek_alloc {A : AW} (hf : ∀ b, A.next ≤ b → A.get b = none) (obj : AObj) {a : Addr} {n : Nat} {cs : List Value} (h : A.peek a n = some cs) : (A.alloc obj).peek a n = some cs := by
 unfold AW.peek at h ⊢
 cases hg : A.get a.block with
 | none => rw [hg] at h; cases h
 | some x =>
  have : a.block ≠ A.next := fun e => by rw [hf a.block (by omega)] at hg; cases hg
  rw [AW.get_alloc, if_neg this]
  exact h
def Loads (C : Cfg) (o : Oper) (fr : Fr) (A : AW) (v : Value) : Prop :=
 ∃ t x p n y, o.op = .load t x ∧ fr.eval C.P x = some (.pointer (some p)) ∧ sizeT C.P t = some n ∧ (A.peek p n).bind (shT C.P t).ofCells = some y ∧ v = (shT C.P t).inj y
theorem Loads.val {o : Oper} {A : AW} {v : Value} (h : Loads C o fr A v) (K : Value → M ρ) : evOp C I o fr K A = K v A := by
 obtain ⟨t, x, p, n, y, h1, h2, h3, h4, rfl⟩ := h
 unfold evOp
 rw [h1]
 simp only [h2, h3, M.deref, M.load, h4]
theorem Loads.of {o : Oper} {A : AW} {K : Value → M ρ} (hk : opKind C o.op = 1) (h : evOp C I o fr K A ≠ .stuck) : ∃ v, Loads C o fr A v := by
 have : ∃ t x, o.op = .load t x := by
  cases ho : o.op <;> rw [ho] at hk <;> simp [opKind] at hk
  case load t x => exact ⟨t, x, rfl⟩
  case binOp op t x y yt =>
   exfalso
   cases op <;> simp at hk
   all_goals
    split at hk <;> simp at hk
  case convert s d x => exfalso; split at hk <;> simp at hk
  case call c =>
   exfalso
   split at hk <;> try (simp at hk; done)
   split at hk <;> simp at hk
 obtain ⟨t, x, ho⟩ := this
 unfold evOp at h
 rw [ho] at h
 simp only at h
 cases hx : fr.eval C.P x with
 | none => rw [hx] at h; exact absurd rfl h
 | some v =>
  rw [hx] at h
  cases hn : sizeT C.P t with
  | none => rw [hn] at h; cases v <;> exact absurd rfl h
  | some n =>
   rw [hn] at h
   cases v with
   | pointer p =>
    cases p with
    | none => exact absurd rfl h
    | some p =>
     simp only [M.deref, M.load] at h
     cases hy : (A.peek p n).bind (shT C.P t).ofCells with
     | none => rw [hy] at h; exact absurd rfl h
     | some y => exact ⟨_, t, x, p, n, y, ho, hx, hn, hy, rfl⟩
   | _ => exact absurd rfl h
theorem Loads.alloc {o : Oper} {A : AW} {v : Value} (h : Loads C o fr A v) (hf : ∀ b, A.next ≤ b → A.get b = none) (obj : AObj) : Loads C o fr (A.alloc obj) v := by
 obtain ⟨t, x, p, n, y, h1, h2, h3, h4, h5⟩ := h
 obtain ⟨cs, hc, hy⟩ := Option.bind_eq_some_iff.1 h4
 exact ⟨t, x, p, n, y, h1, h2, h3, by rw [peek_alloc hf obj hc]; exact hy, h5⟩
theorem Loads.congr {o : Oper} {A : AW} {v : Value} (h : Loads C o fr A v) {ops : List Oper} (hc : Agree (readsOf ops o) fr fr') : Loads C o fr' A v := by
 obtain ⟨t, x, p, n, y, h1, h2, h3, h4, h5⟩ := h
 exact ⟨t, x, p, n, y, h1, by rw [← h2]; exact (eval_congr fun u hu => hc u (mem_readsOf (by rw [h1]; simp [Op.operands]) hu)).symm, h3, h4, h5⟩
theorem veq1_eq {x y : Value} (h : veq1 x y = true) : x = y := by
 unfold veq1 at h
 split at h
 ·rw [eq_of_beq h]
 ·simp only [Bool.and_eq_true, decide_eq_true_eq] at h
  rw [h.1, eq_of_beq h.2]
 ·rw [seq_iff.1 h]
 ·rw [of_decide_eq_true h]
 ·simp only [Bool.and_eq_true, decide_eq_true_eq] at h
  rw [h.1.1, Nat.eq_of_beq_eq_true h.1.2, Nat.eq_of_beq_eq_true h.2]
 ·rw [of_decide_eq_true h]
 ·rfl
 ·rfl
 ·cases h
theorem veqs_eq : ∀ {x y : List Value}, veqs x y = true → x = y
 | [], [], _ => rfl
 | [], _ :: _, h => by simp [veqs] at h
 | _ :: _, [], h => by simp [veqs] at h
 | x :: xs, y :: ys, h => by
  simp only [veqs, Bool.and_eq_true] at h
  rw [veq1_eq h.1, veqs_eq h.2]
theorem veqv_eq {x y : Value} (h : veqv x y = true) : x = y := by
 unfold veqv at h
 split at h
 ·rename_i a b
  have := veqs_eq h
  congr 1
  exact Array.ext' this
 ·exact veq1_eq h
theorem recheck_ok {ops : List Oper} {K : M ρ} {A : AW} {r : Res ρ} : ∀ {l : List Nat}, recheck C ops fr K l A = r → r ≠ .stuck → K A = r ∧ ∀ j ∈ l, ∃ o, ops[j]? = some o ∧
  (guardSt ops o fr = some false ∨ (guardSt ops o fr = some true ∧ ∃ d v, o.dst = some d ∧ look d fr.env = some v ∧ Loads C o fr A v))
 | [], h, _ => ⟨h, fun j hj => by cases hj⟩
 | j :: l, h, hr => by
  simp only [recheck] at h
  cases ho : ops[j]? with
  | none => rw [ho] at h; exact absurd h.symm hr
  | some o =>
   rw [ho] at h
   simp only at h
   have stk : (M.stuck : M ρ) A = r → False := fun e => hr e.symm
   cases hop : o.op <;> rw [hop] at h <;> try exact (stk h).elim
   rename_i t x
   cases hd : o.dst with
   | none => rw [hd] at h; exact (stk h).elim
   | some d =>
    rw [hd] at h
    simp only at h
    cases hg : guardSt ops o fr with
    | none => rw [hg] at h; exact (stk h).elim
    | some b =>
     rw [hg] at h
     cases b with
     | false =>
      obtain ⟨h1, h2⟩ := recheck_ok (l := l) h hr
      refine ⟨h1, fun i hi => ?_⟩
      rcases List.mem_cons.1 hi with rfl | hi
      ·exact ⟨o, ho, .inl hg⟩
      ·exact h2 i hi
     | true =>
      obtain ⟨v, hl, h⟩ := need_ok h hr
      cases hx : fr.eval C.P x with
      | none => rw [hx] at h; exact (stk h).elim
      | some u =>
       cases hn : sizeT C.P t with
       | none => rw [hx, hn] at h; exact (stk (by cases u <;> exact h)).elim
       | some n =>
        rw [hx, hn] at h
        cases u with
        | pointer p =>
         obtain ⟨p, rfl, h9⟩ := deref_ok h hr
         clear h
         have h := h9
         clear h9
         simp only [M.load] at h
         cases hy : (A.peek p n).bind (shT C.P t).ofCells with
         | none => rw [hy] at h; exact (stk h).elim
         | some y =>
          rw [hy] at h
          simp only at h
          cases hv : veqv ((shT C.P t).inj y) v with
          | false => rw [hv] at h; exact (stk h).elim
          | true =>
           rw [hv] at h
           obtain ⟨h1, h2⟩ := recheck_ok (l := l) h hr
           refine ⟨h1, fun i hi => ?_⟩
           rcases List.mem_cons.1 hi with rfl | hi
           ·exact ⟨o, ho, .inr ⟨hg, d, v, hd, hl, t, x, p, n, y, hop, hx, hn, hy, (veqv_eq hv).symm⟩⟩
           ·exact h2 i hi
        | _ => exact (stk h).elim
end
end Go.Eng
