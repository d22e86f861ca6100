/-
 The engine, part 4: what a function of the program comes to over an abstract heap; each part is proved against the model.
-/
import Derived.Test.YtlcigkdflbfdgaaGreatDoorEng3
import Derived.Test.YtlcigkdflbfdgaaGreatDoorEng2
import Derived.CallsIn
import Derived.Laws.Sem
import Derived.Laws.World
namespace Go.Eng
open Go
abbrev Phi := Nat → Option (Option (Nat × Nat))
def Le (φ φ' : Phi) : Prop := ∀ b x, φ b = some x → φ' b = some x ∨ φ' b = some none
theorem Le.refl (φ : Phi) : Le φ φ := fun _ _ h => .inl h
theorem Le.trans {φ ψ χ : Phi} (h : Le φ ψ) (k : Le ψ χ) : Le φ χ := fun b x hx => by
 rcases h b x hx with e | e
 ·exact k b x e
 ·rcases k b none e with e' | e' <;> exact .inr e'
def AR (φ : Phi) (a c : Addr) : Prop := ∃ x, φ a.block = some x ∧ ∀ d e, x = some (d, e) → a.off = c.off ∧ a.spot = c.spot ∧ c.block = d
def BR (φ : Phi) (r c : Nat) : Prop := ∃ x, φ r = some x ∧ ∀ d e, x = some (d, e) → c = d
def SR (φ : Phi) (a : Addr) (n cap : Nat) (c : Addr) (cap' : Nat) : Prop :=
 (n ≤ cap ∧ cap ≤ cap') ∧ ∃ x, φ a.block = some x ∧ ∀ d e, x = some (d, e) → (cap' = cap ∨ cap' = cap + e) ∧ ((cap' = 0 ∧ n = 0) ∨ (a.off = c.off ∧ a.spot = c.spot ∧ c.block = d))
def FR (φ : Phi) : Fn → Fn → Prop
 | .func f, .func g => f = g
 | .yield l, .yield m => BR φ l m
 | _, _ => False
inductive VR (φ : Phi) : Value → Value → Prop
 | bool (b : Bool) : VR φ (.bool b) (.bool b)
 | int (k : IntKind) (n : Int) : VR φ (.int k n) (.int k n)
 | float (k : FloatKind) (n : Nat) : VR φ (.float k n) (.float k n)
 | complex (k : FloatKind) (n m : Nat) : VR φ (.complex k n m) (.complex k n m)
 | string (s : ByteArray) : VR φ (.string s) (.string s)
 | nilPtr : VR φ (.pointer none) (.pointer none)
 | ptr {a c : Addr} (h : AR φ a c) : VR φ (.pointer (some a)) (.pointer (some c))
 | nilSlice {n c : Nat} (h : n ≤ c) : VR φ (.slice none n c) (.slice none n c)
 | slice {a c : Addr} (n : Nat) {cap cap' : Nat} (h : SR φ a n cap c cap') : VR φ (.slice (some a) n cap) (.slice (some c) n cap')
 | nilMap : VR φ (.map none) (.map none)
 | map {r c : Nat} (h : BR φ r c) : VR φ (.map (some r)) (.map (some c))
 | nilChan : VR φ (.chan none) (.chan none)
 | func {f g : Fn} {a b c d : Array Value} (h : FR φ f g) (ha : a.toList.length = c.toList.length) (hac : ∀ (i : Nat) x y, a.toList[i]? = some x → c.toList[i]? = some y → VR φ x y)
   (hb : b.toList.length = d.toList.length) (hbd : ∀ (i : Nat) x y, b.toList[i]? = some x → d.toList[i]? = some y → VR φ x y) : VR φ (.func f a b) (.func g c d)
 | nilFunc : VR φ .nilFunc .nilFunc
 | iface (t : TypeId) {v u : Value} (h : VR φ v u) : VR φ (.iface t v) (.iface t u)
 | nilIface : VR φ .nilIface .nilIface
 | unk (k : IntKind) (n : Int) : VR φ (.tuple #[]) (.int k n)
 | agg {a c : Array Value} (ha : a.toList.length = c.toList.length) (hac : ∀ (i : Nat) x y, a.toList[i]? = some x → c.toList[i]? = some y → VR φ x y) : VR φ (.agg a) (.agg c)
 | tuple {a c : Array Value} (ha : a.toList.length = c.toList.length) (hac : ∀ (i : Nat) x y, a.toList[i]? = some x → c.toList[i]? = some y → VR φ x y) : VR φ (.tuple a) (.tuple c)
theorem AR.mono {φ ψ : Phi} {a c : Addr} (h : AR φ a c) (l : Le φ ψ) : AR ψ a c := by
 obtain ⟨x, hx, h3⟩ := h
 rcases l _ _ hx with e | e
 ·exact ⟨x, e, h3⟩
 ·exact ⟨none, e, fun _ _ e => by cases e⟩
theorem BR.mono {φ ψ : Phi} {a c : Nat} (h : BR φ a c) (l : Le φ ψ) : BR ψ a c := by
 obtain ⟨x, hx, h3⟩ := h
 rcases l _ _ hx with e | e
 ·exact ⟨x, e, h3⟩
 ·exact ⟨none, e, fun _ _ e => by cases e⟩
theorem SR.mono {φ ψ : Phi} {a c : Addr} {n k m : Nat} (h : SR φ a n k c m) (l : Le φ ψ) : SR ψ a n k c m := by
 obtain ⟨h1, x, hx, h3⟩ := h
 rcases l _ _ hx with e | e
 ·exact ⟨h1, x, e, h3⟩
 ·exact ⟨h1, none, e, fun _ _ e => by cases e⟩
theorem FR.mono {φ ψ : Phi} {f g : Fn} (h : FR φ f g) (l : Le φ ψ) : FR ψ f g := by
 cases f <;> cases g <;> first | exact h | exact BR.mono h l
theorem VR.mono {φ ψ : Phi} {v u : Value} (h : VR φ v u) (l : Le φ ψ) : VR ψ v u := by
 induction h with
 | bool b => exact .bool b
 | int k n => exact .int k n
 | float k n => exact .float k n
 | complex k n m => exact .complex k n m
 | string s => exact .string s
 | nilPtr => exact .nilPtr
 | ptr h => exact .ptr (h.mono l)
 | nilSlice h => exact .nilSlice h
 | slice n h => exact .slice n (h.mono l)
 | nilMap => exact .nilMap
 | map h => exact .map (h.mono l)
 | nilChan => exact .nilChan
 | func h ha _ hb _ i1 i2 => exact .func (h.mono l) ha i1 hb i2
 | nilFunc => exact .nilFunc
 | iface t _ ih => exact .iface t ih
 | nilIface => exact .nilIface
 | unk k n => exact .unk k n
 | agg ha _ ih => exact .agg ha ih
 | tuple ha _ ih => exact .tuple ha ih
def Rs (φ : Phi) (l m : List Value) : Prop := l.length = m.length ∧ ∀ (i : Nat) x y, l[i]? = some x → m[i]? = some y → VR φ x y
theorem Rs.mono {φ ψ : Phi} {l m : List Value} (h : Rs φ l m) (k : Le φ ψ) : Rs ψ l m := ⟨h.1, fun i x y a b => (h.2 i x y a b).mono k⟩
theorem Rs.nil {φ : Phi} : Rs φ [] [] := ⟨rfl, fun i x y a => by simp at a⟩
theorem Rs.cons {φ : Phi} {x y : Value} {l m : List Value} (h : VR φ x y) (t : Rs φ l m) : Rs φ (x :: l) (y :: m) :=
 ⟨by simp [t.1], fun i a b ha hb => by
  cases i with
  | zero => simp at ha hb; subst ha; subst hb; exact h
  | succ i => simp at ha hb; exact t.2 i a b ha hb⟩
theorem Rs.cons_inv {φ : Phi} {x : Value} {l m : List Value} (h : Rs φ (x :: l) m) : ∃ y k, m = y :: k ∧ VR φ x y ∧ Rs φ l k := by
 obtain ⟨h1, h2⟩ := h
 cases m with
 | nil => simp at h1
 | cons y k => exact ⟨y, k, rfl, h2 0 x y rfl rfl, by simpa using h1, fun i a b ha hb => h2 (i + 1) a b (by simpa using ha) (by simpa using hb)⟩
theorem Rs.nil_inv {φ : Phi} {m : List Value} (h : Rs φ [] m) : m = [] := by
 have := h.1
 cases m
 ·rfl
 ·simp at this
theorem Rs.get {φ : Phi} {l m : List Value} (h : Rs φ l m) {i : Nat} {x : Value} (hx : l[i]? = some x) : ∃ y, m[i]? = some y ∧ VR φ x y := by
 have hi : i < l.length := (List.getElem?_eq_some_iff.1 hx).1
 have hm : i < m.length := h.1 ▸ hi
 exact ⟨m[i], List.getElem?_eq_getElem hm, h.2 i x _ hx (List.getElem?_eq_getElem hm)⟩
theorem Rs.append {φ : Phi} {l m l' m' : List Value} (h : Rs φ l m) (k : Rs φ l' m') : Rs φ (l ++ l') (m ++ m') :=
 ⟨by simp [h.1, k.1], fun i x y hx hy => by
  rw [List.getElem?_append] at hx hy
  rw [← h.1] at hy
  split at hx
  ·rename_i hi; rw [if_pos hi] at hy; exact h.2 i x y hx hy
  ·rename_i hi; rw [if_neg hi] at hy; exact k.2 _ x y hx hy⟩
theorem Rs.take {φ : Phi} {l m : List Value} (n : Nat) (h : Rs φ l m) : Rs φ (l.take n) (m.take n) :=
 ⟨by simp [h.1], fun i x y hx hy => by
  rw [List.getElem?_take] at hx hy
  split at hx
  ·rename_i hi; rw [if_pos hi] at hy; exact h.2 i x y hx hy
  ·cases hx⟩
theorem Rs.drop {φ : Phi} {l m : List Value} (n : Nat) (h : Rs φ l m) : Rs φ (l.drop n) (m.drop n) :=
 ⟨by simp [h.1], fun i x y hx hy => by
  rw [List.getElem?_drop] at hx hy
  exact h.2 _ x y hx hy⟩
theorem setAt_length : ∀ (cs : List Value) (n : Nat) (vs : List Value), n + vs.length ≤ cs.length → (setAt cs n vs).length = cs.length
 | cs, n, [], _ => by cases cs <;> cases n <;> rfl
 | [], _, _ :: _, h => by simp at h
 | c :: cs, 0, v :: vs, h => by
  simp only [setAt, List.length_cons]
  rw [setAt_length cs 0 vs (by simp at h; omega)]
 | c :: cs, n + 1, v :: vs, h => by
  simp only [setAt, List.length_cons]
  rw [setAt_length cs n (v :: vs) (by simp at h ⊢; omega)]
theorem setAt_eq : ∀ (cs : List Value) (n : Nat) (vs : List Value), n + vs.length ≤ cs.length → setAt cs n vs = cs.take n ++ vs ++ cs.drop (n + vs.length)
 | cs, n, [], _ => by cases cs <;> cases n <;> simp [setAt]
 | [], _, _ :: _, h => by simp at h
 | c :: cs, 0, v :: vs, h => by
  simp only [setAt]
  rw [setAt_eq cs 0 vs (by simp at h; omega)]
  simp [Nat.add_comm]
 | c :: cs, n + 1, v :: vs, h => by
  simp only [setAt]
  rw [setAt_eq cs n (v :: vs) (by simp at h ⊢; omega)]
  have e : n + 1 + (v :: vs).length = (n + (v :: vs).length) + 1 := by omega
  rw [e]
  rfl
def EnvR (φ : Phi) (env : Slots) (tmps : Array Value) : Prop := ∀ t v, look t env = some v → ∃ u, tmps[t]? = some u ∧ VR φ v u
def EsR (φ : Phi) (es : List MapEntry) (fs : List MapEntry) : Prop :=
 es.length = fs.length ∧ ∀ (i : Nat) (e f : MapEntry), es[i]? = some e → fs[i]? = some f → e.key = f.key ∧ plain1 e.key = true ∧ VR φ e.val f.val ∧ e.born = f.born
def FzR (fz : Nat × Nat) (ish : Bool) (fz' : Nat × Nat) (n : Nat) : Prop :=
 (fz.1 ≠ fz.2 → fz'.1 = fz'.2 ∨ (fz.1 ≤ fz'.1 ∧ fz'.2 ≤ fz.2)) ∧ (fz.1 = fz.2 → ∀ i, i < n → ¬(fz'.1 ≤ i ∧ i < fz'.2)) ∧ (ish = false → fz'.1 = fz'.2) ∧ fz'.1 ≤ fz'.2
def ObjR (P : Program) (φ : Phi) (ex : Nat) : AObj → Obj → Prop
 | .cells cs e g fz ish, o => ∃ arr fz', o = .cells arr e fz' ∧ arr.size = cs.list.length + ex * (sizeT P e).getD 0 ∧ Rs φ cs.list (arr.toList.take cs.list.length) ∧ (g = false → ex = 0) ∧ FzR fz ish fz' arr.size
 | .iter s pos, o => o = .stringIter s pos
 | .map es clock, o => ∃ fs, o = .map fs clock ∧ EsR φ es fs.toList
 | .pin r p, o => o = p ∧ ∃ arr e fz, p = .cells arr e fz ∧ r.list.length ≤ arr.toList.length ∧ ∀ (i : Nat) v u, r.list[i]? = some v → notHole v = true → arr.toList[i]? = some u → VR φ v u
 | .loop r, o => ∃ l : Loop, o = .loop l ∧ l.state = r.state ∧ l.pending = r.pending ∧ r.bound ≤ l.tmps.size ∧ EnvR φ r.env l.tmps ∧ l.params.toList = r.params ∧ l.assign = r.assign ∧ l.body = r.body
structure Sim (P : Program) (φ : Phi) (A : AW) (w : World) : Prop where
 obj : ∀ b c ex, φ b = some (some (c, ex)) → ∃ o o', A.get b = some o ∧ w.heap[c]? = some o' ∧ ObjR P φ ex o o'
 inj : ∀ b b' c e e', φ b = some (some (c, e)) → φ b' = some (some (c, e')) → b = b'
 bound : ∀ b, φ b ≠ none → b < A.next
 dead : ∀ b, φ b = some none → A.get b = none
 fresh : ∀ b, A.next ≤ b → A.get b = none
structure SameOut (w w' : World) : Prop where
 os : w'.os = w.os
 tape : w'.tape = w.tape
 output : w'.output = w.output
theorem SameOut.refl (w : World) : SameOut w w := ⟨rfl, rfl, rfl⟩
theorem SameOut.trans {w w1 w2 : World} (h : SameOut w w1) (k : SameOut w1 w2) : SameOut w w2 := ⟨k.os.trans h.os, k.tape.trans h.tape, k.output.trans h.output⟩
def Sz (w w' : World) : Prop := w'.heap.size = w.heap.size ∧ SameOut w w'
structure Onw (φ : Phi) (A : AW) (w : World) (φ' : Phi) (A' : AW) (w' : World) : Prop where
 le : Le φ φ'
 size : w.heap.size ≤ w'.heap.size
 next : A.next ≤ A'.next
 conc : ∀ c, c < w.heap.size → (∀ b ex, φ b ≠ some (some (c, ex))) → w'.heap[c]? = w.heap[c]?
 range : ∀ b c ex, φ' b = some (some (c, ex)) → c < w.heap.size → ∃ b0 e0, φ b0 = some (some (c, e0))
 virt : ∀ b, b < A.next → φ b = none → φ' b = none ∧ A'.get b = A.get b
 out : SameOut w w'
theorem Onw.refl (φ : Phi) (A : AW) (w : World) : Onw φ A w φ A w :=
 ⟨Le.refl φ, Nat.le_refl _, Nat.le_refl _, fun _ _ _ => rfl, fun b _ ex h _ => ⟨b, ex, h⟩, fun _ _ h => ⟨h, rfl⟩, SameOut.refl _⟩
theorem Onw.trans {φ φ1 φ2 : Phi} {A A1 A2 : AW} {w w1 w2 : World} (h : Onw φ A w φ1 A1 w1) (k : Onw φ1 A1 w1 φ2 A2 w2) : Onw φ A w φ2 A2 w2 where
 le := h.le.trans k.le
 size := Nat.le_trans h.size k.size
 next := Nat.le_trans h.next k.next
 conc := fun c hc hn => by
  rw [k.conc c (Nat.lt_of_lt_of_le hc h.size) (fun b ex hb => by
   obtain ⟨b0, e0, h0⟩ := h.range b c ex hb hc
   exact hn b0 e0 h0), h.conc c hc hn]
 range := fun b c ex hb hc => by
  obtain ⟨b0, e0, h0⟩ := k.range b c ex hb (Nat.lt_of_lt_of_le hc h.size)
  exact h.range b0 c e0 h0 hc
 virt := fun b hb hn => by
  obtain ⟨h1, h2⟩ := h.virt b hb hn
  obtain ⟨k1, k2⟩ := k.virt b (Nat.lt_of_lt_of_le hb h.next) h1
  exact ⟨k1, k2.trans h2⟩
 out := h.out.trans k.out
theorem EnvR.mono {φ ψ : Phi} {env : Slots} {tmps : Array Value} (h : EnvR φ env tmps) (l : Le φ ψ) : EnvR ψ env tmps :=
 fun t v hv => let ⟨u, hu, hr⟩ := h t v hv; ⟨u, hu, hr.mono l⟩
theorem EsR.mono {φ ψ : Phi} {es fs : List MapEntry} (h : EsR φ es fs) (l : Le φ ψ) : EsR ψ es fs :=
 ⟨h.1, fun i e f he hf => let ⟨a, b, c, d⟩ := h.2 i e f he hf; ⟨a, b, c.mono l, d⟩⟩
theorem ObjR.mono {P : Program} {φ ψ : Phi} {ex : Nat} {o : AObj} {o' : Obj} (h : ObjR P φ ex o o') (l : Le φ ψ) : ObjR P ψ ex o o' := by
 cases o with
 | cells cs e g fz ish => obtain ⟨arr, fz', h1, h2, h3, h4⟩ := h; exact ⟨arr, fz', h1, h2, h3.mono l, h4⟩
 | iter s pos => exact h
 | map es clock => obtain ⟨fs, h1, h2⟩ := h; exact ⟨fs, h1, h2.mono l⟩
 | pin r p => obtain ⟨h1, arr, e, fz, h2, h3, h4⟩ := h; exact ⟨h1, arr, e, fz, h2, h3, fun i v u a b c => (h4 i v u a b c).mono l⟩
 | loop r => obtain ⟨k, h1, h2, h3, h4, h5, h6⟩ := h; exact ⟨k, h1, h2, h3, h4, h5.mono l, h6⟩
end Go.Eng
namespace Go.Eng
open Go
def setPhi (φ : Phi) (b : Nat) (x : Option (Nat × Nat)) : Phi := fun a => if a = b then some x else φ a
@[simp] theorem setPhi_same (φ : Phi) (b : Nat) (x : Option (Nat × Nat)) : setPhi φ b x b = some x := by simp [setPhi]
theorem setPhi_ne (φ : Phi) {a b : Nat} (x : Option (Nat × Nat)) (h : a ≠ b) : setPhi φ b x a = φ a := by simp [setPhi, h]
theorem le_new {φ : Phi} {b : Nat} (x : Option (Nat × Nat)) (h : φ b = none) : Le φ (setPhi φ b x) := fun a y hy => by
 by_cases e : a = b
 ·subst e; rw [h] at hy; cases hy
 ·exact .inl (by rw [setPhi_ne φ x e]; exact hy)
theorem le_dead (φ : Phi) (b : Nat) : Le φ (setPhi φ b none) := fun a y hy => by
 by_cases e : a = b
 ·subst e; exact .inr (by simp)
 ·exact .inl (by rw [setPhi_ne φ none e]; exact hy)
namespace Sim
variable {P : Program} {φ : Phi} {A : AW} {w : World}
theorem unused (h : Sim P φ A w) : φ A.next = none := by
 cases e : φ A.next with
 | none => rfl
 | some x => exact absurd (h.bound A.next (by rw [e]; simp)) (Nat.lt_irrefl _)
theorem lt (h : Sim P φ A w) {b c ex : Nat} (hb : φ b = some (some (c, ex))) : c < w.heap.size := by
 obtain ⟨_, _, _, hc, _⟩ := h.obj b c ex hb
 exact (Array.getElem?_eq_some_iff.1 hc).1
theorem heap (h : Sim P φ A w) {w' : World} (e : w'.heap = w.heap) : Sim P φ A w' := ⟨fun b c ex hb => by rw [e]; exact h.obj b c ex hb, h.inj, h.bound, h.dead, h.fresh⟩
theorem push (h : Sim P φ A w) {w' : World} {o : Obj} (e : w'.heap = w.heap.push o) : Sim P φ A w' :=
 ⟨fun b c ex hb => by
  obtain ⟨x, y, h1, h2, h3⟩ := h.obj b c ex hb
  refine ⟨x, y, h1, ?_, h3⟩
  have := (Array.getElem?_eq_some_iff.1 h2).1
  rw [e, Array.getElem?_push, if_neg (by omega)]
  exact h2, h.inj, h.bound, h.dead, h.fresh⟩
theorem alloc (h : Sim P φ A w) {w' : World} {o : AObj} {o' : Obj} {ex : Nat} (e : w'.heap = w.heap.push o') (ho : ObjR P φ ex o o') (so : SameOut w w' := by exact ⟨rfl, rfl, rfl⟩) :
  Sim P (setPhi φ A.next (some (w.heap.size, ex))) (A.alloc o) w' ∧ Onw φ A w (setPhi φ A.next (some (w.heap.size, ex))) (A.alloc o) w' := by
 have hu := h.unused
 have hle := le_new (some (w.heap.size, ex)) hu
 constructor
 ·refine ⟨fun b c x hb => ?_, fun b b' c e1 e2 hb hb' => ?_, fun b hb => ?_, fun b hb => ?_, fun b hb => ?_⟩
  rotate_right
  ·have : b ≠ A.next := by simp at hb; omega
   simp [this, h.fresh b (by simp at hb; omega)]
  ·by_cases eb : b = A.next
   ·subst eb
    rw [setPhi_same] at hb
    obtain ⟨rfl, rfl⟩ : w.heap.size = c ∧ ex = x := by simpa using hb
    exact ⟨o, o', by simp, by rw [e]; simp, ho.mono hle⟩
   ·rw [setPhi_ne φ _ eb] at hb
    obtain ⟨y, z, h1, h2, h3⟩ := h.obj b c x hb
    refine ⟨y, z, by simp [eb, h1], ?_, h3.mono hle⟩
    have := (Array.getElem?_eq_some_iff.1 h2).1
    rw [e, Array.getElem?_push, if_neg (by omega)]
    exact h2
  ·by_cases eb : b = A.next <;> by_cases eb' : b' = A.next
   ·rw [eb, eb']
   ·subst eb
    rw [setPhi_same] at hb
    rw [setPhi_ne φ _ eb'] at hb'
    have : w.heap.size = c := by simp at hb; exact hb.1
    have := h.lt hb'
    omega
   ·subst eb'
    rw [setPhi_same] at hb'
    rw [setPhi_ne φ _ eb] at hb
    have : w.heap.size = c := by simp at hb'; exact hb'.1
    have := h.lt hb
    omega
   ·rw [setPhi_ne φ _ eb] at hb
    rw [setPhi_ne φ _ eb'] at hb'
    exact h.inj b b' c e1 e2 hb hb'
  ·by_cases eb : b = A.next
   ·subst eb; simp
   ·rw [setPhi_ne φ _ eb] at hb
    have := h.bound b hb
    simp; omega
  ·by_cases eb : b = A.next
   ·subst eb; rw [setPhi_same] at hb; cases hb
   ·rw [setPhi_ne φ _ eb] at hb
    simp [eb, h.dead b hb]
 ·refine ⟨hle, by simp [e], by simp, fun c hc _ => ?_, fun b c x hb hc => ?_, fun b hb hn => ?_, so⟩
  ·rw [e, Array.getElem?_push, if_neg (by omega)]
  ·by_cases eb : b = A.next
   ·subst eb
    rw [setPhi_same] at hb
    have : w.heap.size = c := by simp at hb; exact hb.1
    omega
   ·rw [setPhi_ne φ _ eb] at hb
    exact ⟨b, x, hb⟩
  ·have : b ≠ A.next := by omega
   exact ⟨by rw [setPhi_ne φ _ this]; exact hn, by simp [this]⟩
theorem put (h : Sim P φ A w) {w' : World} {o : AObj} {o' : Obj} {b c ex : Nat} (hb : φ b = some (some (c, ex))) (hs' : Sz w w')
  (he : ∀ d, d ≠ c → w'.heap[d]? = w.heap[d]?) (hc : w'.heap[c]? = some o') (ho : ObjR P φ ex o o') :
  Sim P φ (A.put b o) w' ∧ Onw φ A w φ (A.put b o) w' := by
 have hs := hs'.1
 constructor
 ·refine ⟨fun b' c' x hb' => ?_, h.inj, fun b' hb' => h.bound b' hb', fun b' hb' => ?_, fun b' hb' => ?_⟩
  rotate_right
  ·have := h.bound b (by rw [hb]; simp)
   have : b' ≠ b := by simp at hb'; omega
   simp [this, h.fresh b' hb']
  ·by_cases eb : b' = b
   ·subst eb
    obtain ⟨rfl, rfl⟩ : c = c' ∧ ex = x := by rw [hb] at hb'; simpa using hb'
    exact ⟨o, o', by simp, hc, ho⟩
   ·obtain ⟨y, z, h1, h2, h3⟩ := h.obj b' c' x hb'
    refine ⟨y, z, by simp [eb, h1], ?_, h3⟩
    rw [he c' (fun e => eb (h.inj b' b c x ex (e ▸ hb') hb))]
    exact h2
  ·have : b' ≠ b := fun e => by subst e; rw [hb] at hb'; cases hb'
   simp [this, h.dead b' hb']
 ·refine ⟨Le.refl φ, by omega, Nat.le_refl _, fun d _ hn => he d (fun e => hn b ex (e ▸ hb)), fun b' c' x hb' _ => ⟨b', x, hb'⟩, fun b' _ hn => ⟨hn, ?_⟩, hs'.2⟩
  have : b' ≠ b := fun e => by subst e; rw [hb] at hn; cases hn
  simp [this]
theorem kill (h : Sim P φ A w) (b : Nat) : Sim P (setPhi φ b none) (A.del b) w ∨ φ b = none := by
 cases hb : φ b with
 | none => exact .inr rfl
 | some x =>
  refine .inl ⟨fun b' c ex hb' => ?_, fun b1 b2 c e1 e2 h1 h2 => ?_, fun b' hb' => ?_, fun b' hb' => ?_, fun b' hb' => ?_⟩
  rotate_right
  ·by_cases eb : b' = b
   ·simp [eb]
   ·simp [eb, h.fresh b' hb']
  ·by_cases eb : b' = b
   ·subst eb; simp at hb'
   ·rw [setPhi_ne φ _ eb] at hb'
    obtain ⟨y, z, h1, h2, h3⟩ := h.obj b' c ex hb'
    exact ⟨y, z, by simp [eb, h1], h2, h3.mono (le_dead φ b)⟩
  ·by_cases e1' : b1 = b
   ·subst e1'; simp at h1
   ·by_cases e2' : b2 = b
    ·subst e2'; simp at h2
    ·rw [setPhi_ne φ _ e1'] at h1
     rw [setPhi_ne φ _ e2'] at h2
     exact h.inj b1 b2 c e1 e2 h1 h2
  ·by_cases eb : b' = b
   ·subst eb; exact h.bound b' (by rw [hb]; simp)
   ·rw [setPhi_ne φ _ eb] at hb'
    exact h.bound b' hb'
  ·by_cases eb : b' = b
   ·simp [eb]
   ·rw [setPhi_ne φ _ eb] at hb'
    simp [eb, h.dead b' hb']
theorem kill_onw (_h : Sim P φ A w) {b : Nat} {x : Option (Nat × Nat)} (hb : φ b = some x) : Onw φ A w (setPhi φ b none) (A.del b) w :=
 ⟨le_dead φ b, Nat.le_refl _, Nat.le_refl _, fun _ _ _ => rfl, fun b' c ex hb' _ => by
  by_cases eb : b' = b
  ·subst eb; simp at hb'
  ·rw [setPhi_ne φ _ eb] at hb'; exact ⟨b', ex, hb'⟩,
  fun b' _ hn => by
  have : b' ≠ b := fun e => by subst e; rw [hb] at hn; cases hn
  exact ⟨by rw [setPhi_ne φ _ this]; exact hn, by simp [this]⟩, SameOut.refl _⟩
end Sim
theorem Onw.heap {φ φ' : Phi} {A A' : AW} {w w' : World} (h : Onw φ A w φ' A' w') {u u' : World} (e : u.heap = w.heap) (e' : u'.heap = w'.heap) (so : SameOut u w := by exact ⟨rfl, rfl, rfl⟩) (so' : SameOut w' u' := by exact ⟨rfl, rfl, rfl⟩) : Onw φ A u φ' A' u' :=
 ⟨h.le, by rw [e, e']; exact h.size, h.next, fun c hc hn => by rw [e, e']; exact h.conc c (e ▸ hc) hn, fun b c ex hb hc => h.range b c ex hb (e ▸ hc), h.virt, (so.trans h.out).trans so'⟩
theorem Onw.push {φ : Phi} {A : AW} {w w' : World} {o : Obj} (e : w'.heap = w.heap.push o) (so : SameOut w w' := by exact ⟨rfl, rfl, rfl⟩) : Onw φ A w φ A w' :=
 ⟨Le.refl φ, by simp [e], Nat.le_refl _, fun c hc _ => by rw [e, Array.getElem?_push, if_neg (by omega)], fun b _ ex hb _ => ⟨b, ex, hb⟩, fun _ _ hn => ⟨hn, rfl⟩, so⟩
end Go.Eng
