/-
 The engine, part 27: what a function of the program comes to over an abstract heap; each part is proved against the model.
-/
import Derived.Test.YtlcigkdflbfdgaaGreatDoorEng25
namespace Go.Eng
open Go Go.RowKit
def solid1 : Value → Bool
 | .bool _ => true | .int _ _ => true | .string _ => true
 | _ => false
def solid : Value → Bool
 | .agg cs => cs.toList.all solid1
 | .tuple cs => !cs.toList.isEmpty && cs.toList.all fun v => match v with
  | .agg ds => ds.toList.all solid1
  | v => solid1 v
 | v => solid1 v
theorem solid1_same {φ : Phi} {v u : Value} (h : solid1 v = true) (k : VR φ v u) : u = v := by
 cases k <;> first | rfl | cases h
theorem solid1_vr {φ : Phi} {v : Value} (h : solid1 v = true) : VR φ v v := by
 cases v <;> first | exact .bool _ | exact .int _ _ | exact .string _ | cases h
theorem all_same {φ : Phi} {c d : Array Value} {p : Value → Bool} (hp : ∀ v u, p v = true → VR φ v u → u = v) (h : c.toList.all p = true) (hl : c.toList.length = d.toList.length)
  (hc : ∀ (i : Nat) x y, c.toList[i]? = some x → d.toList[i]? = some y → VR φ x y) : d = c := by
 apply Array.ext'
 apply List.ext_getElem?
 intro i
 cases hi : c.toList[i]? with
 | none => rw [List.getElem?_eq_none_iff] at hi ⊢; rw [← hl]; exact hi
 | some x =>
  obtain ⟨y, hy, hxy⟩ := Rs.get (l := c.toList) (m := d.toList) ⟨hl, hc⟩ hi
  rw [hy, hp x y (List.all_eq_true.1 h x (List.mem_of_getElem? hi)) hxy]
theorem solid_same {φ : Phi} {v u : Value} (h : solid v = true) (k : VR φ v u) : u = v := by
 cases k with
 | agg ha hac => exact congrArg _ (all_same (fun _ _ => solid1_same) h ha hac)
 | tuple ha hac =>
  simp only [solid, Bool.and_eq_true] at h
  refine congrArg _ (all_same (p := fun v => match v with
   | .agg ds => ds.toList.all solid1
   | v => solid1 v) (fun v u hv hk => ?_) h.2 ha hac)
  cases hk with
  | agg hb hbd => exact congrArg _ (all_same (fun _ _ => solid1_same) hv hb hbd)
  | _ => first | rfl | cases hv
 | unk _ _ => cases h
 | _ => first | rfl | cases h
theorem solid_vr {φ : Phi} {v : Value} (h : solid v = true) : VR φ v v := by
 have key : ∀ {c : Array Value} {p : Value → Bool}, (∀ v, p v = true → VR φ v v) → c.toList.all p = true → ∀ (i : Nat) x y, c.toList[i]? = some x → c.toList[i]? = some y → VR φ x y := by
  intro c p hp h i x y hx hy
  rw [hx] at hy
  obtain rfl := Option.some.inj hy
  exact hp x (List.all_eq_true.1 h x (List.mem_of_getElem? hx))
 cases v with
 | agg cs => exact .agg rfl (key (fun _ => solid1_vr) h)
 | tuple cs =>
  simp only [solid, Bool.and_eq_true] at h
  refine .tuple rfl (key (p := fun v => match v with
   | .agg ds => ds.toList.all solid1
   | v => solid1 v) (fun v hv => ?_) h.2)
  cases v with
  | agg ds => exact .agg rfl (key (fun _ => solid1_vr) hv)
  | _ => exact solid1_vr hv
 | _ => exact solid1_vr h
theorem solid_args {φ : Phi} {l m : List Value} (h : l.all solid = true) (k : Rs φ l m) : m = l := by
 apply List.ext_getElem?
 intro i
 cases hi : l[i]? with
 | none => rw [List.getElem?_eq_none_iff] at hi ⊢; rw [← k.1]; exact hi
 | some x =>
  obtain ⟨y, hy, hxy⟩ := k.get hi
  rw [hy, solid_same (List.all_eq_true.1 h x (List.mem_of_getElem? hi)) hxy]
abbrev Sums := FuncId → List Value → Option Value
def SumsOk (P : Program) (S : Sums) : Prop := ∀ g args v, S g args = some v → args.all solid = true ∧ solid v = true ∧
 ∀ w, CallsIn Fence.wide 0 P g args.toArray w fun e w' => e = .returned v ∧ Below w.heap.size w w'
noncomputable def iterS (C : Cfg) (L : LoopI) (S : Sums) : Nat → Task → M Value
 | 0, _ => M.stuck
 | n + 1, .call f args => match S f args with
  | some v => M.pure v
  | none => evBody C { call := iterS C L S n, loop := L } f args
 | n + 1, .round l args => evRound C { call := iterS C L S n, loop := L } l args
 | n + 1, .deferred f args rc => evBodyD C { call := iterS C L S n, loop := L } f args rc
theorem Sim.below {P : Program} {φ : Phi} {A : AW} {w w' : World} (h : Sim P φ A w) (b : Below w.heap.size w w') : Sim P φ A w' ∧ Onw φ A w φ A w' := by
 have hb : ∀ c, c < w.heap.size → w'.heap[c]? = w.heap[c]? := b.block
 refine ⟨⟨fun x c ex hx => ?_, h.inj, h.bound, h.dead, h.fresh⟩, ⟨Le.refl φ, b.size, Nat.le_refl _, fun c hc _ => hb c hc, fun x c ex hx _ => ⟨x, ex, hx⟩, fun _ _ hn => ⟨hn, rfl⟩, ⟨b.os, b.tape, b.output⟩⟩⟩
 obtain ⟨o, o', h1, h2, h3⟩ := h.obj x c ex hx
 exact ⟨o, o', h1, by rw [hb c (h.lt hx)]; exact h2, h3⟩
theorem iok_iterS {C : Cfg} (hC : COk C) {L : LoopI} (hL : LOk L) {S : Sums} (hS : SumsOk C.P S) : ∀ n, IOk C.P { call := iterS C L S n, loop := L }
 | 0 => ⟨fun _ _ _ _ h hr => absurd h.symm hr, fun _ _ _ _ h hr => absurd h.symm hr, fun _ _ _ _ _ _ h => (by cases h), hL⟩
 | n + 1 => ⟨fun f args A r h hr φ w us hg hs ha => by
   simp only [iterS] at h
   cases hf : S f args with
   | none => rw [hf] at h; exact evBody_sound hC (iok_iterS hC hL hS n) h hr hg hs ha
   | some v =>
    rw [hf] at h
    obtain ⟨h1, h2, h3⟩ := hS f args v hf
    obtain rfl := solid_args h1 ha
    refine CallsIn.mono (h3 w) ?_
    rintro e w' ⟨rfl, hb⟩
    obtain ⟨s1, s2⟩ := hs.below hb
    exact ⟨v, φ, A, h.symm, solid_vr h2, s1, s2⟩,
   fun _ _ _ _ h hr _ _ _ _ hg hs hb ha => evRound_sound hC (iok_iterS hC hL hS n) h hr hg hs hb ha, fun _ _ _ _ _ _ h _ _ _ _ hg hs ha hu => evBodyD_sound hC (iok_iterS hC hL hS n) h hg hs ha hu, hL⟩
noncomputable def iterX (C : Cfg) (T : Tree Entry) (L : LoopI) (S : Sums) : Nat → Task → M Value
 | 0, _ => M.stuck
 | n + 1, .call f args => match S f args with
  | some v => M.pure v
  | none => match T.get f with
   | some e => e.run C L (iterX C T L S n) f args
   | none => evBody C { call := iterX C T L S n, loop := L } f args
 | n + 1, .round l args => evRound C { call := iterX C T L S n, loop := L } l args
 | n + 1, .deferred f args rc => evBodyD C { call := iterX C T L S n, loop := L } f args rc
theorem iterX_eq {C : Cfg} {T : Tree Entry} {L : LoopI} {S : Sums} (h : AllT (Entry.ok C L) T 0 1) : ∀ n, iterX C T L S n = iterS C L S n
 | 0 => rfl
 | n + 1 => by
  funext t
  cases t with
  | call f args =>
   simp only [iterX, iterS]
   rw [iterX_eq h n]
   cases S f args with
   | some v => rfl
   | none =>
    simp only
    cases hg : T.get f with
    | none => rfl
    | some e =>
     simp only [Entry.run]
     cases hp : shsPrj e.sh args with
     | none => rfl
     | some x =>
      simp only
      have h9 := h.get f e hg (iterS C L S n) x
      rw [Nat.zero_add, Nat.one_mul] at h9
      rw [← h9, shsInj_prj hp]
  | round l args =>
   simp only [iterX, iterS]
   rw [iterX_eq h n]
  | deferred f args rc =>
   simp only [iterX, iterS]
   rw [iterX_eq h n]
def same1 : Value → Value → Bool
 | .bool a, .bool b => a == b
 | .int k a, .int k' b => decide (k = k') && decide (a = b)
 | .string a, .string b => seq a b
 | _, _ => false
def sameL : List Value → List Value → Bool
 | [], [] => true
 | x :: xs, y :: ys => same1 x y && sameL xs ys
 | _, _ => false
def sameA : Value → Value → Bool
 | .agg a, .agg b => sameL a.toList b.toList
 | x, y => same1 x y
def sameAL : List Value → List Value → Bool
 | [], [] => true
 | x :: xs, y :: ys => sameA x y && sameAL xs ys
 | _, _ => false
def sameV : Value → Value → Bool
 | .tuple a, .tuple b => sameAL a.toList b.toList
 | x, y => sameA x y
theorem same1_eq {x y : Value} (h : same1 x y = true) : x = y := by
 unfold same1 at h
 split at h
 ·rw [eq_of_beq h]
 ·simp only [Bool.and_eq_true, decide_eq_true_eq] at h
  rw [h.1, h.2]
 ·rw [seq_iff.1 h]
 ·cases h
theorem sameL_eq : ∀ {x y : List Value}, sameL x y = true → x = y
 | [], [], _ => rfl
 | [], _ :: _, h => by simp [sameL] at h
 | _ :: _, [], h => by simp [sameL] at h
 | x :: xs, y :: ys, h => by
  simp only [sameL, Bool.and_eq_true] at h
  rw [same1_eq h.1, sameL_eq h.2]
theorem sameA_eq {x y : Value} (h : sameA x y = true) : x = y := by
 unfold sameA at h
 split at h
 ·rename_i a b
  have := sameL_eq h
  congr 1
  exact Array.ext' this
 ·exact same1_eq h
theorem sameAL_eq : ∀ {x y : List Value}, sameAL x y = true → x = y
 | [], [], _ => rfl
 | [], _ :: _, h => by simp [sameAL] at h
 | _ :: _, [], h => by simp [sameAL] at h
 | x :: xs, y :: ys, h => by
  simp only [sameAL, Bool.and_eq_true] at h
  rw [sameA_eq h.1, sameAL_eq h.2]
theorem sameV_eq {x y : Value} (h : sameV x y = true) : x = y := by
 unfold sameV at h
 split at h
 ·rename_i a b
  have := sameAL_eq h
  congr 1
  exact Array.ext' this
 ·exact sameA_eq h
def noSums : Sums := fun _ _ => none
theorem noSums_ok (P : Program) : SumsOk P noSums := fun _ _ _ h => by cases h
end Go.Eng
