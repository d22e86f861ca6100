/-
 The engine, part 28: what a function of the program comes to over an abstract heap; each part is proved against the model.
-/
import Derived.Test.YtlcigkdflbfdgaaGreatDoorEng27
namespace Go.Eng
open Go Go.RowKit
noncomputable section
def lkObj : List (Nat × AObj) → Nat → Option AObj
 | [], _ => none
 | (b, o) :: l, c => if c = b then some o else lkObj l c
def layT : List (Nat × AObj) → Tri AObj
 | [] => .leaf 0 17
 | (b, o) :: l => (layT l).set b (some o)
def layW (os : List (Nat × AObj)) (next : Nat) : AW := { heap := layT os, next := next }
theorem layW_get (next : Nat) : ∀ (os : List (Nat × AObj)) (b : Nat), (layW os next).get b = lkObj os b
 | [], b => Tri.get_leaf ..
 | (c, o) :: os, b => by
  have ih := layW_get next os b
  show ((layT os).set c (some o)).get b = _
  rw [Tri.get_set]
  unfold lkObj
  by_cases h : b = c
  ·rw [if_pos h, if_pos h]
  ·rw [if_neg h, if_neg h]; exact ih
end
end Go.Eng
namespace Go.Eng
open Go Go.RowKit
def pinObj : Option AObj → Option Obj
 | some (.pin _ p) => some p
 | _ => none
def phi1 (os : List (Nat × AObj)) (nx : Nat) (cm : Nat → Nat) : Phi := fun b => if b < nx then (match lkObj os b with
 | some _ => some (some (cm b, 0))
 | none => some none) else none
structure PinsOk (P : Program) (os : List (Nat × AObj)) (nx : Nat) (cm : Nat → Nat) (w : World) : Prop where
 key : ∀ b o, lkObj os b = some o → b < nx ∧ ∃ r p, o = .pin r p ∧ w.heap[cm b]? = some p ∧ ∃ arr e fz, p = .cells arr e fz ∧ r.list.length ≤ arr.toList.length ∧ ∀ (i : Nat) v u, r.list[i]? = some v → notHole v = true → arr.toList[i]? = some u → VR (phi1 os nx cm) v u
 inj : ∀ b b' o o', lkObj os b = some o → lkObj os b' = some o' → cm b = cm b' → b = b'
 size : P.globals.size ≤ nx
 glob : ∀ g, g < P.globals.size → cm g = g
theorem phi1_live {os : List (Nat × AObj)} {nx : Nat} {cm : Nat → Nat} {b c ex : Nat} (h : phi1 os nx cm b = some (some (c, ex))) : b < nx ∧ c = cm b ∧ ex = 0 ∧ ∃ o, lkObj os b = some o := by
 unfold phi1 at h
 by_cases hb : b < nx
 ·rw [if_pos hb] at h
  cases hl : lkObj os b with
  | none => rw [hl] at h; simp at h
  | some o =>
   rw [hl] at h
   simp only [Option.some.injEq, Prod.mk.injEq] at h
   exact ⟨hb, h.1.symm, h.2.symm, o, rfl⟩
 ·rw [if_neg hb] at h; cases h
theorem phi1_of {os : List (Nat × AObj)} {nx : Nat} {cm : Nat → Nat} {b : Nat} {o : AObj} (hb : b < nx) (h : lkObj os b = some o) : phi1 os nx cm b = some (some (cm b, 0)) := by
 unfold phi1
 rw [if_pos hb, h]
section
variable {P : Program} {os : List (Nat × AObj)} {nx : Nat} {cm : Nat → Nat} {w : World}
theorem sim1 (h : PinsOk P os nx cm w) : Sim P (phi1 os nx cm) (layW os nx) w := by
 refine ⟨fun b c ex hb => ?_, fun b b' c e e' h1 h2 => ?_, fun b hb => ?_, fun b hb => ?_, fun b hb => ?_⟩
 ·obtain ⟨_, rfl, rfl, o, ho⟩ := phi1_live hb
  obtain ⟨_, r, p, rfl, hp, hk⟩ := h.key b o ho
  exact ⟨.pin r p, p, by rw [layW_get, ho], hp, rfl, hk⟩
 ·obtain ⟨_, rfl, _, o, ho⟩ := phi1_live h1
  obtain ⟨_, hc, _, o', ho'⟩ := phi1_live h2
  exact h.inj b b' o o' ho ho' hc
 ·show b < nx
  unfold phi1 at hb
  by_cases hlt : b < nx
  ·exact hlt
  ·rw [if_neg hlt] at hb; exact absurd rfl hb
 ·rw [layW_get]
  cases hl : lkObj os b with
  | none => rfl
  | some o =>
   obtain ⟨hlt, _⟩ := h.key b o hl
   rw [phi1_of hlt hl] at hb
   cases hb
 ·rw [layW_get]
  cases hl : lkObj os b with
  | none => rfl
  | some o =>
   obtain ⟨hlt, _⟩ := h.key b o hl
   have hb : nx ≤ b := hb
   omega
theorem glob1 (h : PinsOk P os nx cm w) : GlobOk P (phi1 os nx cm) := fun g hg => by
 have hlt : g < nx := Nat.lt_of_lt_of_le hg h.size
 cases hl : lkObj os g with
 | none => exact .inl (by unfold phi1; rw [if_pos hlt, hl])
 | some o => exact .inr ⟨0, by rw [phi1_of hlt hl, h.glob g hg]⟩
theorem closedP {I : Interp} (hI : IOk P I) {f : FuncId} {args us : List Value} {v : Value} {A' : AW} (h : PinsOk P os nx cm w) (ha : Rs (phi1 os nx cm) args us) (hv : solid v = true)
  (hr : I.call (.call f args) (layW os nx) = .ok v A') (hp : ∀ b o, lkObj os b = some o → pinObj (A'.get b) = pinObj (some o)) :
  CallsIn Fence.wide 0 P f us.toArray w fun e w' => e = .returned v ∧ Below w.heap.size w w' := by
 refine CallsIn.mono (hI.call f args _ _ hr (by simp) (phi1 os nx cm) w us (glob1 h) (sim1 h) ha) ?_
 intro e w' he
 cases e with
 | returned u =>
  obtain ⟨v', φ', A1, h1, h2, h3, h4⟩ := he
  injection h1 with e1 e2
  subst e1; subst e2
  refine ⟨by rw [solid_same hv h2], h4.out.os, h4.out.tape, h4.out.output, h4.size, fun c hc => ?_⟩
  by_cases hx : ∃ b ex, phi1 os nx cm b = some (some (c, ex))
  ·obtain ⟨b, ex, hb⟩ := hx
   obtain ⟨hlt, rfl, rfl, o, ho⟩ := phi1_live hb
   obtain ⟨_, r, p, rfl, hwp, _⟩ := h.key b o ho
   have hpb := hp b _ ho
   rcases h4.le _ _ hb with e | e
   ·obtain ⟨x, y, k1, k2, k3⟩ := h3.obj b _ _ e
    rw [k1] at hpb
    cases x with
    | pin r' p' =>
     obtain rfl : p' = p := Option.some.inj hpb
     obtain ⟨rfl, _⟩ := k3
     rw [k2, hwp]
    | _ => cases hpb
   ·rw [h3.dead b e] at hpb
    cases hpb
  ·exact h4.conc c hc fun b ex hb => hx ⟨b, ex, hb⟩
 | panicked c => obtain ⟨_, _, _, _, h1, _⟩ := he; cases h1
 | outgrown => exact he.elim
end
noncomputable def endsP (v : Value) (bs : List Nat) : Res Value → Option (List (Option Obj))
 | .ok u A => Bool.rec (motive := fun _ => Option (List (Option Obj))) none (some (bs.map fun b => pinObj (A.get b))) (sameV v u)
 | _ => none
theorem endsP_ok {v : Value} {bs : List Nat} {r : Res Value} {ps : List (Option Obj)} (h : endsP v bs r = some ps) : ∃ A, r = .ok v A ∧ (bs.map fun b => pinObj (A.get b)) = ps := by
 cases r with
 | stuck => cases h
 | panic _ _ => cases h
 | ok u A =>
  have key : ∀ b : Bool, Bool.rec (motive := fun _ => Option (List (Option Obj))) none (some (bs.map fun b => pinObj (A.get b))) b = some ps → b = true ∧ (bs.map fun b => pinObj (A.get b)) = ps := fun b hb => by
   cases b with
   | false => cases hb
   | true => exact ⟨rfl, Option.some.inj hb⟩
  obtain ⟨hs, hl⟩ := key _ h
  exact ⟨A, by rw [sameV_eq hs], hl⟩
theorem iok_iterX {C : Cfg} (hC : COk C) {T : Tree Entry} {k : Nat} {S : Sums} (hT : AllT (Entry.ok C (Lw k)) T 0 1) (hS : SumsOk C.P S) (n : Nat) : IOk C.P { call := iterX C T (Lw k) S n, loop := Lw k } := by
 rw [iterX_eq hT]
 exact iok_iterS hC (lok_whileN k) hS n
end Go.Eng
namespace Go.Eng
open Go
theorem callS_ok' {ρ : Type} {A A1 : AW} {r : RSh} {m : M Value} {v : Value} {x : r.T} {K : r.T → M ρ} (h : m A = .ok v A1) (hp : r.prj v = some x) : M.callS r m K A = K x A1 := by
 unfold M.callS M.bind
 rw [h]
 simp only [hp]
 rfl
theorem blt_no' {a b : Nat} (h : b ≤ a) : Nat.blt a b = false := by
 cases hb : Nat.blt a b with
 | false => rfl
 | true =>
  have : a < b := by simpa using hb
  omega
section
variable {ρ σ : Type} {A A' : AW}
theorem load_run {s : Sh} {n : Nat} {a : Addr} {k : s.T → M ρ} {x : s.T} (h : (A.peek a n).bind s.ofCells = some x) : M.load s n a k A = k x A := by
 unfold M.load
 rw [h]
theorem store_run {a : Addr} {vs : List Value} {k : M ρ} {A' : AW} (h : A.store a vs = some A') : M.store a vs k A = k A' := by
 unfold M.store
 rw [h]
theorem bind_run {m : M σ} {k : σ → M ρ} {x : σ} (h : m A = .ok x A') : M.bind m k A = k x A' := by
 unfold M.bind
 rw [h]
theorem callS_run {r : RSh} {m : M Value} {v : Value} {x : r.T} {K : r.T → M ρ} (h : m A = .ok v A') (hp : r.prj v = some x) : M.callS r m K A = K x A' := callS_ok' h hp
theorem next_more {b : Nat} {done : M ρ} {more : Int → Int → M ρ} {s : ByteArray} {pos : Nat} (h : A.get b = some (.iter s pos)) (hp : pos < s.size) :
  M.next b done more A = more pos (Utf8.decode s pos).1 (A.put b (.iter s (pos + (Utf8.decode s pos).2))) := by
 unfold M.next
 rw [h]
 simp only
 rw [show Nat.blt pos s.size = true by simpa using hp]
 rfl
theorem next_done {b : Nat} {done : M ρ} {more : Int → Int → M ρ} {s : ByteArray} {pos : Nat} (h : A.get b = some (.iter s pos)) (hp : s.size ≤ pos) : M.next b done more A = done A := by
 unfold M.next
 rw [h]
 simp only
 rw [blt_no' hp]
 rfl
structure Grown (S : Nat → Prop) (A A' : AW) : Prop where
 next : A.next ≤ A'.next
 old : ∀ b, b < A.next → ¬ S b → A'.get b = A.get b
end
end Go.Eng
namespace Go.Eng
open Go
def Ev {ρ : Type} (m : M ρ) (A : AW) (Q : ρ → AW → Prop) : Prop := ∃ x A', m A = .ok x A' ∧ Q x A'
inductive Thing where
 | cells (b : Nat) (L : List Value) (e : TypeId) (g : Bool) (fz : Nat × Nat) (ish : Bool)
 | iter (b : Nat) (s : ByteArray) (pos : Nat)
 | vec (e esz : Nat) (ish : Bool) (a : Option Addr) (n c : Nat) (L : List Value)
namespace Thing
def own (A : AW) : Thing → Prop
 | .cells b L e g fz ish => ∃ r, A.get b = some (.cells r e g fz ish) ∧ r.list = L
 | .iter b s pos => A.get b = some (.iter s pos)
 | .vec e esz ish a n c L => L.length = n * esz ∧ n = c ∧ (match a with
  | none => n = 0
  | some a => a = ⟨a.block, 0, none⟩ ∧ ∃ r i, A.get a.block = some (.cells r e true (0, 0) i) ∧ r.list = L ∧ (i = true → ish = true))
def spot : Thing → Option Nat
 | .cells b .. => some b
 | .iter b .. => some b
 | .vec _ _ _ a _ _ _ => a.map (·.block)
def row : Thing → Option (Nat × List Value)
 | .cells b L _ _ _ _ => some (b, L)
 | .vec _ _ _ (some a) _ _ L => some (a.block, L)
 | _ => none
theorem own_congr {A A' : AW} {t : Thing} (h : ∀ b, t.spot = some b → A'.get b = A.get b) (k : t.own A) : t.own A' := by
 cases t with
 | cells b L e g fz ish => obtain ⟨r, h1, h2⟩ := k; exact ⟨r, by rw [h b rfl]; exact h1, h2⟩
 | iter b s pos => exact (h b rfl).trans k
 | vec e esz ish a n c L =>
  obtain ⟨h1, h2, h3⟩ := k
  refine ⟨h1, h2, ?_⟩
  cases a with
  | none => exact h3
  | some a =>
   obtain ⟨h4, r, i, h5, h6, h7⟩ := h3
   exact ⟨h4, r, i, by rw [h a.block rfl]; exact h5, h6, h7⟩
theorem own_pin {A : AW} {t : Thing} {b : Nat} {r : Row} {p : Obj} (h : t.own A) (hb : t.spot = some b) : A.get b ≠ some (.pin r p) := by
 intro e
 cases t with
 | cells b' L e' g fz ish =>
  obtain ⟨r', h1, _⟩ := h
  obtain rfl := Option.some.inj hb
  rw [e] at h1; cases h1
 | iter b' s pos =>
  obtain rfl := Option.some.inj hb
  have h1 : A.get b' = _ := h
  rw [e] at h1; cases h1
 | vec e' esz ish a n c L =>
  cases a with
  | none => cases hb
  | some a =>
   obtain rfl := Option.some.inj hb
   obtain ⟨_, _, _, r', i, h1, _⟩ := h
   rw [e] at h1; cases h1
end Thing
abbrev Tabs := Nat → Option (Row × Obj)
structure Hp (T : Tabs) (A : AW) (l : List Thing) : Prop where
 tab : ∀ g r p, T g = some (r, p) → A.get g = some (.pin r p) ∧ g < A.next
 own : ∀ (i : Nat) t, l[i]? = some t → t.own A
 lt : ∀ (i : Nat) t b, l[i]? = some t → t.spot = some b → b < A.next
 apart : ∀ (i j : Nat) t u b, i ≠ j → l[i]? = some t → l[j]? = some u → t.spot = some b → u.spot ≠ some b
namespace Hp
variable {T : Tabs} {A A' : AW} {l : List Thing} {t t' : Thing} {i : Nat}
theorem nil (A : AW) (h : ∀ g r p, T g = some (r, p) → A.get g = some (.pin r p) ∧ g < A.next) : Hp T A [] := ⟨h, fun _ _ h => by simp at h, fun _ _ _ h => by simp at h, fun _ _ _ _ _ _ h => by simp at h⟩
theorem set (h : Hp T A l) (hi : l[i]? = some t) (hn : A.next ≤ A'.next) (hk : ∀ b, b < A.next → t.spot ≠ some b → A'.get b = A.get b) (ho : t'.own A')
  (hs : ∀ b, t'.spot = some b → (t.spot = some b ∨ A.next ≤ b) ∧ b < A'.next) : Hp T A' (l.set i t') := by
 have hlt : i < l.length := (List.getElem?_eq_some_iff.1 hi).1
 have key : ∀ (j : Nat) u, (l.set i t')[j]? = some u → (j = i ∧ u = t') ∨ (j ≠ i ∧ l[j]? = some u) := fun j u hu => by
  rw [List.getElem?_set] at hu
  by_cases e : i = j
  ·subst e
   rw [if_pos rfl, if_pos hlt] at hu
   exact .inl ⟨rfl, (Option.some.inj hu).symm⟩
  ·rw [if_neg e] at hu
   exact .inr ⟨fun e' => e e'.symm, hu⟩
 refine ⟨fun g r p hg => ?_, fun j u hu => ?_, fun j u b hu hb => ?_, fun j k u v b hjk hu hv hb hc => ?_⟩
 ·obtain ⟨h1, h2⟩ := h.tab g r p hg
  exact ⟨by rw [hk g h2 fun e => Thing.own_pin (h.own i t hi) e h1]; exact h1, Nat.lt_of_lt_of_le h2 hn⟩
 ·rcases key j u hu with ⟨_, rfl⟩ | ⟨hj, hu⟩
  ·exact ho
  ·exact Thing.own_congr (fun b hb => hk b (h.lt j u b hu hb) fun e => h.apart j i u t b hj hu hi hb e) (h.own j u hu)
 ·rcases key j u hu with ⟨_, rfl⟩ | ⟨hj, hu⟩
  ·exact (hs b hb).2
  ·exact Nat.lt_of_lt_of_le (h.lt j u b hu hb) hn
 ·rcases key j u hu with ⟨rfl, rfl⟩ | ⟨hj, hu⟩
  ·rcases key k v hv with ⟨rfl, _⟩ | ⟨hk', hv⟩
   ·exact hjk rfl
   ·rcases (hs b hb).1 with e | e
    ·exact h.apart k j v t b hk' hv hi hc e
    ·exact absurd (h.lt k v b hv hc) (by omega)
  ·rcases key k v hv with ⟨ek, ev⟩ | ⟨hk', hv⟩
   ·rcases (hs b (ev ▸ hc)).1 with e | e
    ·exact h.apart j i u t b hj hu hi hb e
    ·exact absurd (h.lt j u b hu hb) (by omega)
   ·exact h.apart j k u v b hjk hu hv hb hc
theorem cons (h : Hp T A l) (hn : A.next ≤ A'.next) (hk : ∀ b, b < A.next → A'.get b = A.get b) (ho : t.own A') (hs : ∀ b, t.spot = some b → A.next ≤ b ∧ b < A'.next) : Hp T A' (t :: l) := by
 have key : ∀ (j : Nat) u, (t :: l)[j]? = some u → (j = 0 ∧ u = t) ∨ (∃ k, j = k + 1 ∧ l[k]? = some u) := fun j u hu => by
  cases j with
  | zero => exact .inl ⟨rfl, (Option.some.inj hu).symm⟩
  | succ k => exact .inr ⟨k, rfl, by simpa using hu⟩
 refine ⟨fun g r p hg => ⟨by rw [hk g (h.tab g r p hg).2]; exact (h.tab g r p hg).1, Nat.lt_of_lt_of_le (h.tab g r p hg).2 hn⟩, fun j u hu => ?_, fun j u b hu hb => ?_, fun j k u v b hjk hu hv hb hc => ?_⟩
 ·rcases key j u hu with ⟨_, rfl⟩ | ⟨k, rfl, hu⟩
  ·exact ho
  ·exact Thing.own_congr (fun b hb => hk b (h.lt k u b hu hb)) (h.own k u hu)
 ·rcases key j u hu with ⟨_, rfl⟩ | ⟨k, rfl, hu⟩
  ·exact (hs b hb).2
  ·exact Nat.lt_of_lt_of_le (h.lt k u b hu hb) hn
 ·rcases key j u hu with ⟨rfl, rfl⟩ | ⟨j, rfl, hu⟩
  ·rcases key k v hv with ⟨rfl, _⟩ | ⟨k, rfl, hv⟩
   ·exact hjk rfl
   ·exact absurd (h.lt k v b hv hc) (by have := (hs b hb).1; omega)
  ·rcases key k v hv with ⟨rfl, rfl⟩ | ⟨k, rfl, hv⟩
   ·exact absurd (h.lt j u b hu hb) (by have := (hs b hc).1; omega)
   ·exact h.apart j k u v b (fun e => hjk (by rw [e])) hu hv hb hc
theorem erase (h : Hp T A l) (i : Nat) : Hp T A (l.eraseIdx i) := by
 obtain ⟨f, hf, hinj⟩ : ∃ f : Nat → Nat, (∀ j, (l.eraseIdx i)[j]? = l[f j]?) ∧ ∀ a b, a ≠ b → f a ≠ f b := by
  refine ⟨fun j => if j < i then j else j + 1, fun j => ?_, fun a b hab => ?_⟩
  ·rw [List.getElem?_eraseIdx]
   by_cases e : j < i <;> simp [e]
  ·by_cases e1 : a < i <;> by_cases e2 : b < i <;> simp [e1, e2] <;> omega
 exact ⟨h.tab, fun j u hu => h.own (f j) u (hf j ▸ hu), fun j u b hu hb => h.lt (f j) u b (hf j ▸ hu) hb, fun j k u v b hjk hu hv hb => h.apart (f j) (f k) u v b (hinj j k hjk) (hf j ▸ hu) (hf k ▸ hv) hb⟩
theorem drop (h : Hp T A l) (n : Nat) : Hp T A (l.drop n) :=
 ⟨h.tab, fun i t ht => h.own (n + i) t (by simpa using ht), fun i t b ht hb => h.lt (n + i) t b (by simpa using ht) hb, fun i j t u b hij ht hu hb => h.apart (n + i) (n + j) t u b (by omega) (by simpa using ht) (by simpa using hu) hb⟩
theorem tail (h : Hp T A (t :: l)) : Hp T A l := h.erase 0
theorem front (h : Hp T A l) (i : Nat) (hi : l[i]? = some t) : Hp T A (t :: l.eraseIdx i) := by
 obtain ⟨f, hf, hinj⟩ : ∃ f : Nat → Nat, (∀ j, (t :: l.eraseIdx i)[j]? = l[f j]?) ∧ ∀ a b, a ≠ b → f a ≠ f b := by
  refine ⟨fun j => match j with | 0 => i | j + 1 => if j < i then j else j + 1, fun j => ?_, fun a b hab => ?_⟩
  ·cases j with
   | zero => simp [hi]
   | succ j =>
    simp only [List.getElem?_cons_succ, List.getElem?_eraseIdx]
    by_cases e : j < i <;> simp [e]
  ·cases a <;> cases b <;> simp only [] <;> (repeat' split) <;> omega
 exact ⟨h.tab, fun j u hu => h.own (f j) u (hf j ▸ hu), fun j u b hu hb => h.lt (f j) u b (hf j ▸ hu) hb, fun j k u v b hjk hu hv hb => h.apart (f j) (f k) u v b (hinj j k hjk) (hf j ▸ hu) (hf k ▸ hv) hb⟩
end Hp
def u8s (l : List UInt8) : List Value := l.map fun b => .int .u8 b.toNat
theorem u8s_append (a b : List UInt8) : u8s (a ++ b) = u8s a ++ u8s b := List.map_append
theorem u8s_length (a : List UInt8) : (u8s a).length = a.length := List.length_map _
theorem u8s_one (a : List UInt8) : (u8s a).all Value.oneCell' = true := by
 rw [List.all_eq_true]
 intro v hv
 obtain ⟨b, _, rfl⟩ := List.mem_map.1 hv
 rfl
theorem bytesOf_u8s : ∀ a : List UInt8, bytesOfCells (u8s a) = some a
 | [] => rfl
 | b :: l => by
  show (bytesOfCells (u8s l)).map (UInt8.ofNat (Int.toNat (b.toNat : Int)) :: ·) = _
  rw [bytesOf_u8s l, Int.toNat_natCast, UInt8.ofNat_toNat]
  rfl
section
variable {T : Tabs} {ρ σ τ : Type} {A : AW} {Q : ρ → AW → Prop} {l : List Thing}
theorem ev_pure {x : ρ} (h : Q x A) : Ev (M.pure x) A Q := ⟨x, A, rfl, h⟩
theorem ev_guard {b : Bool} {m : M ρ} (hb : b = true) (h : Ev m A Q) : Ev (M.guard b m) A Q := by subst hb; exact h
theorem ev_cond_t {b : Bool} {m k : M ρ} (hb : b = true) (h : Ev m A Q) : Ev (cond b m k) A Q := by subst hb; exact h
theorem ev_t {b : Bool} {m k : M ρ} (hb : b = true) (h : Ev m A Q) : Ev (M.ite b m k) A Q := by subst hb; exact h
theorem ev_f {b : Bool} {m k : M ρ} (hb : b = false) (h : Ev k A Q) : Ev (M.ite b m k) A Q := by subst hb; exact h
theorem ev_ite {b : Bool} {m k : M ρ} (h1 : b = true → Ev m A Q) (h2 : b = false → Ev k A Q) : Ev (M.ite b m k) A Q := by cases b <;> first | exact h1 rfl | exact h2 rfl
theorem ev_bind {m : M σ} {k : σ → M ρ} (h : Ev m A fun x A' => Ev (k x) A' Q) : Ev (M.bind m k) A Q := by
 obtain ⟨x, A', h1, y, A2, h2, h3⟩ := h
 exact ⟨y, A2, by rw [bind_run h1]; exact h2, h3⟩
theorem ev_call {r : RSh} {m : M Value} {K : r.T → M ρ} (h : Ev m A fun v A' => ∃ x, r.prj v = some x ∧ Ev (K x) A' Q) : Ev (M.callS r m K) A Q := by
 obtain ⟨v, A', h1, x, h2, y, A2, h3, h4⟩ := h
 exact ⟨y, A2, by rw [callS_run h1 h2]; exact h3, h4⟩
theorem ev_need {α : Type} {o : Option α} {x : α} {k : α → M ρ} (ho : o = some x) (h : Ev (k x) A Q) : Ev (M.need o k) A Q := by subst ho; exact h
theorem ev_new {L : List Value} {e : TypeId} {g : Bool} {fz : Nat × Nat} {ish : Bool} {k : Nat → M ρ} (h : Hp T A l) (H : ∀ b A', Hp T A' (.cells b L e g fz ish :: l) → Ev (k b) A' Q) : Ev (M.new (.cells (Row.ofList L) e g fz ish) k) A Q :=
 H A.next _ (h.cons (A' := A.alloc (.cells (Row.ofList L) e g fz ish)) (by simp) (fun b hb => by simp [show b ≠ A.next by omega]) ⟨_, by simp, Row.ofList_list L⟩ fun b hb => by
  obtain rfl := Option.some.inj hb
  simp)
theorem ev_newR {r : Row} {L : List Value} {e : TypeId} {g : Bool} {fz : Nat × Nat} {ish : Bool} {k : Nat → M ρ} (h : Hp T A l) (hr : r.list = L) (H : ∀ b A', Hp T A' (.cells b L e g fz ish :: l) → Ev (k b) A' Q) : Ev (M.new (.cells r e g fz ish) k) A Q :=
 H A.next _ (h.cons (A' := A.alloc (.cells r e g fz ish)) (by simp) (fun b hb => by simp [show b ≠ A.next by omega]) ⟨_, by simp, hr⟩ fun b hb => by
  obtain rfl := Option.some.inj hb
  simp)
theorem ev_iter {s : ByteArray} {p : Nat} {k : Nat → M ρ} (h : Hp T A l) (H : ∀ b A', Hp T A' (.iter b s p :: l) → Ev (k b) A' Q) : Ev (M.new (.iter s p) k) A Q :=
 H A.next _ (h.cons (A' := A.alloc (.iter s p)) (by simp) (fun b hb => by simp [show b ≠ A.next by omega]) (by show AW.get _ _ = _; simp) fun b hb => by
  obtain rfl := Option.some.inj hb
  simp)
theorem ev_next (i : Nat) {b : Nat} {s : ByteArray} {p : Nat} {done : M ρ} {more : Int → Int → M ρ} (h : Hp T A l) (hi : l[i]? = some (.iter b s p))
  (H1 : s.size ≤ p → Ev done A Q) (H2 : p < s.size → ∀ A', Hp T A' (l.set i (.iter b s (p + (Utf8.decode s p).2))) → Ev (more p (Utf8.decode s p).1) A' Q) : Ev (M.next b done more) A Q := by
 have hg : A.get b = some (.iter s p) := h.own i _ hi
 by_cases hp : p < s.size
 ·obtain ⟨x, A', k1, k2⟩ := H2 hp (A.put b (.iter s (p + (Utf8.decode s p).2))) (h.set hi (by simp) (fun c _ hc => by
    have : c ≠ b := fun e => hc (by rw [e]; rfl)
    simp [this]) (by show AW.get _ _ = _; simp) fun c hc => ⟨.inl hc, by simpa using h.lt i _ c hi hc⟩)
  exact ⟨x, A', by rw [next_more hg hp]; exact k1, k2⟩
 ·obtain ⟨x, A', k1, k2⟩ := H1 (by omega)
  exact ⟨x, A', by rw [next_done hg (by omega)]; exact k1, k2⟩
theorem peek_of {i : Nat} {t : Thing} {b n o : Nat} {L : List Value} (h : Hp T A l) (hi : l[i]? = some t) (ht : t.row = some (b, L)) (hl : o + n ≤ L.length) : A.peek ⟨b, o, none⟩ n = some ((L.drop o).take n) := by
 have key : ∀ r : Row, r.list = L → r.read o n = some ((L.drop o).take n) := fun r hr => by rw [Row.read_eq, hr, if_pos hl]
 have ho := h.own i t hi
 cases t with
 | cells b' L' e g fz ish =>
  obtain ⟨r, h1, h2⟩ := ho
  simp only [Thing.row, Option.some.injEq, Prod.mk.injEq] at ht
  obtain ⟨rfl, rfl⟩ := ht
  unfold AW.peek
  rw [h1]
  exact key r h2
 | iter b' s p => cases ht
 | vec e esz ish a n' c L' =>
  cases a with
  | none => cases ht
  | some a =>
   obtain ⟨_, _, h3, r, j, h1, h2, _⟩ := ho
   simp only [Thing.row, Option.some.injEq, Prod.mk.injEq] at ht
   obtain ⟨rfl, rfl⟩ := ht
   unfold AW.peek
   rw [h1]
   exact key r h2
theorem ev_tab {g : Nat} {r : Row} {p : Obj} {s : Sh} {n : Nat} {a : Addr} {k : s.T → M ρ} {x : s.T} (h : Hp T A l) (hg : T g = some (r, p)) (ha : a = ⟨g, a.off, none⟩) (hl : a.off + n ≤ r.list.length)
  (hh : ((r.list.drop a.off).take n).all notHole = true) (hx : s.ofCells ((r.list.drop a.off).take n) = some x) (H : Ev (k x) A Q) : Ev (M.load s n a k) A Q := by
 obtain ⟨y, A', h1, h2⟩ := H
 refine ⟨y, A', ?_, h2⟩
 rw [load_run (x := x)]
 ·exact h1
 ·rw [ha]
  unfold AW.peek
  rw [(h.tab g r p hg).1]
  simp only [Option.isNone_none, cond_true]
  rw [Row.read_eq, if_pos hl]
  simp only [hh, cond_true]
  exact hx
theorem ev_load (i : Nat) {t : Thing} {b : Nat} {L : List Value} {s : Sh} {n : Nat} {a : Addr} {k : s.T → M ρ} {x : s.T} (h : Hp T A l) (hi : l[i]? = some t) (ht : t.row = some (b, L)) (ha : a = ⟨b, a.off, none⟩) (hl : a.off + n ≤ L.length)
  (hx : s.ofCells ((L.drop a.off).take n) = some x) (H : Ev (k x) A Q) : Ev (M.load s n a k) A Q := by
 obtain ⟨y, A', h1, h2⟩ := H
 refine ⟨y, A', ?_, h2⟩
 rw [load_run (x := x)]
 ·exact h1
 ·rw [ha, peek_of h hi ht hl]
  exact hx
theorem ev_store (i : Nat) {b : Nat} {L : List Value} {e : TypeId} {g ish : Bool} {a : Addr} {vs : List Value} {k : M ρ} (h : Hp T A l) (hi : l[i]? = some (.cells b L e g (0, 0) ish)) (ha : a = ⟨b, a.off, none⟩) (hl : a.off + vs.length ≤ L.length)
  (hv : vs.all Value.oneCell' = true) (H : ∀ A', Hp T A' (l.set i (.cells b (setAt L a.off vs) e g (0, 0) ish)) → Ev k A' Q) : Ev (M.store a vs k) A Q := by
 obtain ⟨r, h1, h2⟩ := h.own i _ hi
 obtain ⟨r', hr'⟩ : ∃ r', r.write a.off vs = some r' := by rw [Row.write_eq, h2, if_pos hl]; exact ⟨_, rfl⟩
 have hb : a.block = b := by rw [ha]
 have hsp : a.spot = none := by rw [ha]
 have hst : A.store a vs = some (A.put b (.cells r' e g (0, 0) ish)) := by
  unfold AW.store
  rw [hb, h1]
  simp only [hsp, hv, hr']
  rfl
 obtain ⟨y, A', k1, k2⟩ := H (A.put b (.cells r' e g (0, 0) ish)) (h.set hi (by simp) (fun c _ hc => by
    have : c ≠ b := fun e => hc (by rw [e]; rfl)
    simp [this]) ⟨r', by simp, by rw [(Row.write_list hr').2, h2]⟩ fun c hc => ⟨.inl hc, by simpa using h.lt i _ c hi hc⟩)
 exact ⟨y, A', by rw [store_run hst]; exact k1, k2⟩
theorem ev_append (i : Nat) {e esz bytes n c : Nat} {a : Option Addr} {ish : Bool} {L new : List Value} {x : Value} {m : Nat} {k : Option Addr → Nat → Nat → M ρ} (h : Hp T A l) (hi : l[i]? = some (.vec e esz ish a n c L)) (hx : lenV x = some m) (he : A.elems esz m x = some new)
  (hlen : new.length = m * esz) (h1 : 1 ≤ esz) (h2 : 1 ≤ bytes) (hb : (2 * (n + m) + 200) * bytes ≤ 2 ^ 48) (hv : new.all Value.oneCell' = true)
  (H : ∀ A' a', Hp T A' (l.set i (.vec e esz ish a' (n + m) (n + m) (L ++ new))) → Ev (k a' (n + m) (n + m)) A' Q) : Ev (M.append e esz bytes a n c x k) A Q := by
 obtain ⟨o1, rfl, o3⟩ := h.own i _ hi
 have hL : (L ++ new).length = (n + m) * esz := by rw [List.length_append, o1, hlen, Nat.add_mul]
 have fin : ∀ a' A', A.appendL e esz bytes a n n m new = some (.slice a' (n + m) (n + m), A') → Hp T A' (l.set i (.vec e esz ish a' (n + m) (n + m) (L ++ new))) → Ev (M.append e esz bytes a n n x k) A Q := fun a' A' hap hp => by
  obtain ⟨y, A2, k1, k2⟩ := H A' a' hp
  refine ⟨y, A2, ?_, k2⟩
  unfold M.append AW.append
  rw [hx]
  simp only [he, hap]
  exact k1
 rcases Nat.eq_zero_or_pos m with rfl | hm
 ·
  have hnil : new = [] := List.eq_nil_of_length_eq_zero (by rw [hlen, Nat.zero_mul])
  subst hnil
  rw [List.append_nil] at *
  cases a with
  | none =>
   refine fin none A ?_ (h.set hi (Nat.le_refl _) (fun _ _ _ => rfl) ⟨hL, rfl, o3⟩ fun b hb => by cases hb)
   unfold AW.appendL
   rw [show Nat.ble (n + 0) n = true by simp]
   rfl
  | some a =>
   obtain ⟨ha, r, j, g1, g2, g3⟩ := o3
   obtain ⟨r', hr'⟩ : ∃ r', r.write (n * esz) [] = some r' := by rw [Row.write_eq, g2, if_pos (by simp [o1])]; exact ⟨_, rfl⟩
   have hst : A.store (a.add (n * esz)) [] = some (A.put a.block (.cells r' e true (0, 0) j)) := by
    have e3 : a.add (n * esz) = ⟨a.block, n * esz, none⟩ := by
     rw [ha, Addr.add]
     split
     ·rename_i h9; rw [h9]
     ·rw [Nat.zero_add]
    rw [e3]
    unfold AW.store
    simp only [g1, hr']
    rfl
   refine fin (some a) _ ?_ (h.set (A' := A.put a.block (.cells r' e true (0, 0) j)) hi (by simp) (fun c _ hc => by
    have : c ≠ a.block := fun e => hc (by rw [e]; rfl)
    simp [this]) ⟨hL, rfl, ha, r', j, by simp, by rw [(Row.write_list hr').2, g2]; cases L <;> rfl, g3⟩ fun c hc => ⟨.inl hc, by simpa using h.lt i _ c hi hc⟩)
   unfold AW.appendL
   rw [show Nat.ble (n + 0) n = true by simp]
   simp only [hst, cond_true]
   rfl
 ·have hno : Nat.ble (n + m) n = false := by
   cases hbb : Nat.ble (n + m) n
   ·rfl
   ·exact absurd (Nat.le_of_ble_eq_true hbb) (by omega)
  have hok : (Nat.ble 1 esz && Nat.ble 1 bytes && Nat.ble ((2 * (n + m) + 200) * bytes) (2 ^ 48) && Nat.beq new.length (m * esz) && new.all Value.oneCell') = true := by
   rw [Nat.ble_eq_true_of_le h1, Nat.ble_eq_true_of_le h2, Nat.ble_eq_true_of_le hb, hlen, Nat.beq_refl, hv]; rfl
  cases a with
  | none =>
   have hn0 : n = 0 := o3
   subst hn0
   obtain rfl : L = [] := List.eq_nil_of_length_eq_zero (by rw [o1, Nat.zero_mul])
   refine fin (some ⟨A.next, 0, none⟩) (A.alloc (.cells (Row.ofList new) e true (0, 0) false)) ?_ (h.set hi (by simp) (fun b hb _ => by simp [show b ≠ A.next by omega])
    ⟨hL, rfl, rfl, _, false, by simp, Row.ofList_list _, fun e => by cases e⟩ fun b hb => by
     obtain rfl := Option.some.inj hb
     exact ⟨.inr (Nat.le_refl _), by simp⟩)
   unfold AW.appendL
   rw [hno]
   simp only [hok, cond_false, cond_true]
  | some a =>
   obtain ⟨ha, r, j, g1, g2, g3⟩ := o3
   have hrn : r.n = n * esz := by rw [← Row.list_length, g2, o1]
   have hoff : a.off = 0 := by rw [ha]
   have hsp : a.spot = none := by rw [ha]
   have hne : ∀ c, c < A.next → Thing.spot (.vec e esz ish (some a) n n L) ≠ some c → ((A.del a.block).alloc (.cells (r.app 0 (n * esz) new) e true (0, 0) j)).get c = A.get c := fun c h9 hc => by
    have : c ≠ a.block := fun e => hc (by rw [e]; rfl)
    have h8 : c ≠ A.next := by omega
    simp [this, h8]
   refine fin (some ⟨A.next, 0, none⟩) ((A.del a.block).alloc (.cells (r.app 0 (n * esz) new) e true (0, 0) j)) ?_ (h.set hi (by simp) hne
    ⟨hL, rfl, rfl, r.app 0 (n * esz) new, j, by simp, ?_, g3⟩ fun b hb => by
     obtain rfl := Option.some.inj hb
     exact ⟨.inr (Nat.le_refl _), by simp⟩)
   ·unfold AW.appendL
    rw [hno]
    simp only [hok, cond_false, cond_true]
    rw [g1]
    simp only [hsp, hoff, hrn, Nat.zero_add, Nat.beq_refl, Nat.ble_eq_true_of_le (Nat.le_refl _), Nat.ble_eq_true_of_le (Nat.zero_le _), Option.isNone_none, Bool.and_self, cond_true]
   ·rw [Row.app_list (by omega), List.drop_zero, g2, List.take_of_length_le (by omega)]
theorem elems_of {i : Nat} {t : Thing} {b n m c esz : Nat} {L : List Value} (h : Hp T A l) (hi : l[i]? = some t) (ht : t.row = some (b, L)) (hl : n * esz ≤ L.length) : A.elems esz n (.slice (some ⟨b, 0, none⟩) m c) = some (L.take (n * esz)) := by
 have key : ∀ r : Row, r.list = L → r.read 0 (n * esz) = some (L.take (n * esz)) := fun r hr => by rw [Row.read_eq, hr, if_pos (by omega), List.drop_zero]
 have ho := h.own i t hi
 unfold AW.elems AW.peek
 cases t with
 | cells b' L' e g fz ish =>
  obtain ⟨r, h1, h2⟩ := ho
  simp only [Thing.row, Option.some.injEq, Prod.mk.injEq] at ht
  obtain ⟨rfl, rfl⟩ := ht
  simp only [h1]
  exact key r h2
 | iter b' s p => cases ht
 | vec e esz ish a n' c L' =>
  cases a with
  | none => cases ht
  | some a =>
   obtain ⟨_, _, h3, r, j, h1, h2, _⟩ := ho
   simp only [Thing.row, Option.some.injEq, Prod.mk.injEq] at ht
   obtain ⟨rfl, rfl⟩ := ht
   simp only [h1]
   exact key r h2
theorem ev_append_str (i : Nat) {e n c : Nat} {a : Option Addr} {ish : Bool} {L : List Value} {s : ByteArray} {k : Option Addr → Nat → Nat → M ρ} (h : Hp T A l) (hi : l[i]? = some (.vec e 1 ish a n c L)) (hb : (2 * (n + s.size) + 200) * 1 ≤ 2 ^ 48)
  (H : ∀ A' a', Hp T A' (l.set i (.vec e 1 ish a' (n + s.size) (n + s.size) (L ++ u8s s.data.toList))) → Ev (k a' (n + s.size) (n + s.size)) A' Q) : Ev (M.append e 1 1 a n c (.string s) k) A Q := by
 have hsz : s.data.toList.length = s.size := by simp
 refine ev_append i h hi rfl (new := u8s s.data.toList) ?_ (by rw [u8s_length, hsz, Nat.mul_one]) (Nat.le_refl _) (Nat.le_refl _) hb (u8s_one _) H
 show some ((s.data.toList.take s.size).map fun b => Value.int .u8 b.toNat) = _
 rw [List.take_of_length_le (by omega)]
 rfl
theorem ev_append_row (i j : Nat) {e esz bytes n c m b e' : Nat} {a : Option Addr} {g ish ish' : Bool} {fz : Nat × Nat} {L L' : List Value} {k : Option Addr → Nat → Nat → M ρ} (h : Hp T A l) (hi : l[i]? = some (.vec e esz ish a n c L)) (hj : l[j]? = some (.cells b L' e' g fz ish')) (hl : L'.length = m * esz)
  (h1 : 1 ≤ esz) (h2 : 1 ≤ bytes) (hb : (2 * (n + m) + 200) * bytes ≤ 2 ^ 48) (hv : L'.all Value.oneCell' = true)
  (H : ∀ A' a', Hp T A' (l.set i (.vec e esz ish a' (n + m) (n + m) (L ++ L'))) → Ev (k a' (n + m) (n + m)) A' Q) : Ev (M.append e esz bytes a n c (.slice (some ⟨b, 0, none⟩) m m) k) A Q := by
 refine ev_append i h hi rfl (new := L') ?_ hl h1 h2 hb hv H
 rw [elems_of h hj rfl (by omega), List.take_of_length_le (by omega)]
theorem ev_toStr (i : Nat) {e n c : Nat} {a : Option Addr} {ish : Bool} {bs : List UInt8} {k : ByteArray → M ρ} (h : Hp T A l) (hi : l[i]? = some (.vec e 1 ish a n c (u8s bs))) (H : Ev (k ⟨⟨bs⟩⟩) A Q) : Ev (M.toStr a n k) A Q := by
 obtain ⟨o1, rfl, o3⟩ := h.own i _ hi
 rw [u8s_length, Nat.mul_one] at o1
 cases a with
 | none =>
  have hn0 : n = 0 := o3
  subst hn0
  obtain rfl : bs = [] := List.eq_nil_of_length_eq_zero o1
  exact H
 | some a =>
  obtain ⟨y, A', h1, h2⟩ := H
  refine ⟨y, A', ?_, h2⟩
  obtain ⟨ha, _⟩ := o3
  have := elems_of (n := n) (m := n) (c := n) (esz := 1) h hi rfl (by rw [u8s_length]; omega)
  unfold M.toStr
  unfold AW.elems at this
  rw [ha] at *
  simp only at this ⊢
  rw [Nat.mul_one] at this
  rw [this, List.take_of_length_le (by rw [u8s_length]; omega)]
  simp only [Option.bind_some, bytesOf_u8s]
  exact h1
theorem ev_ofStr {e : Nat} {s : ByteArray} {k : Option Addr → Nat → Nat → M ρ} (h : Hp T A l) (H : ∀ b A', Hp T A' (.vec e 1 true (some ⟨b, 0, none⟩) s.size s.size (u8s s.data.toList) :: l) → Ev (k (some ⟨b, 0, none⟩) s.size s.size) A' Q) : Ev (M.ofStr e s k) A Q :=
 H A.next _ (h.cons (A' := A.alloc (.cells (Row.ofList (u8s s.data.toList)) e true (0, 0) true)) (by simp) (fun b hb => by simp [show b ≠ A.next by omega])
  ⟨by rw [u8s_length]; simp, rfl, rfl, _, true, by simp, Row.ofList_list _, fun _ => rfl⟩ fun b hb => by
  obtain rfl := Option.some.inj hb
  simp)
def Round (Go : σ → AW → Prop) (Q : ρ → AW → Prop) : σ ⊕ ρ → AW → Prop
 | .inl s, A => Go s A
 | .inr x, A => Q x A
theorem ev_loop {f : σ → M (σ ⊕ ρ)} (Inv : Nat → σ → AW → Prop) {n : Nat} (step : ∀ m s A, Inv m s A → Ev (f s) A (Round (fun s' A' => ∃ m', m' < m ∧ Inv m' s' A') Q)) :
  ∀ {m : Nat} {s : σ} {A : AW}, Inv m s A → m < n → Ev (whileN f n s) A Q := by
 induction n with
 | zero => intro m s A _ h; exact absurd h (Nat.not_lt_zero _)
 | succ n ih =>
  intro m s A hi hn
  obtain ⟨x, A', h1, h2⟩ := step m s A hi
  cases x with
  | inl s' =>
   obtain ⟨m', h3, h4⟩ := h2
   obtain ⟨y, A2, k1, k2⟩ := ih h4 (by omega)
   exact ⟨y, A2, by rw [whileN, bind_run h1]; exact k1, k2⟩
  | inr x => exact ⟨x, A', by rw [whileN, bind_run h1]; rfl, h2⟩
end
end Go.Eng
namespace Go.Eng
open Go Go.RowKit
abbrev SumsU := Nat → List Value → AW → Option (Value × AW)
def SumsUOk (P : Program) (S : SumsU) : Prop := ∀ f args A r, S f args A = some r → ∀ φ w us, GlobOk P φ → Sim P φ A w → Rs φ args us → CallsIn Fence.wide 0 P f us.toArray w (CallEnd P φ A w (.ok r.1 r.2))
theorem callEnd_vr {P : Program} {f : Nat} {args us : List Value} {v : Value} {φ : Phi} {A : AW} {w : World} (h1 : args.all solid = true) (h2 : VR φ v v) (hs : Sim P φ A w) (ha : Rs φ args us)
  (h3 : CallsIn Fence.wide 0 P f args.toArray w fun e w' => e = .returned v ∧ Below w.heap.size w w') : CallsIn Fence.wide 0 P f us.toArray w (CallEnd P φ A w (.ok v A)) := by
 obtain rfl := solid_args h1 ha
 refine CallsIn.mono h3 ?_
 rintro e w' ⟨rfl, hb⟩
 obtain ⟨s1, s2⟩ := hs.below hb
 exact ⟨v, φ, A, rfl, h2, s1, s2⟩
theorem callEnd_solid {P : Program} {f : Nat} {args us : List Value} {v : Value} {φ : Phi} {A : AW} {w : World} (h1 : args.all solid = true) (h2 : solid v = true) (hs : Sim P φ A w) (ha : Rs φ args us)
  (h3 : CallsIn Fence.wide 0 P f args.toArray w fun e w' => e = .returned v ∧ Below w.heap.size w w') : CallsIn Fence.wide 0 P f us.toArray w (CallEnd P φ A w (.ok v A)) := callEnd_vr h1 (solid_vr h2) hs ha h3
noncomputable def iterU (C : Cfg) (T : Tree Entry) (L : LoopI) (S : SumsU) : Nat → Task → M Value
 | 0, _ => M.stuck
 | n + 1, .call f args => fun A => match S f args A with
  | some r => .ok r.1 r.2
  | none => (match T.get f with
    | some e => e.run C L (iterU C T L S n) f args
    | none => evBody C { call := iterU C T L S n, loop := L } f args) A
 | n + 1, .round l args => evRound C { call := iterU C T L S n, loop := L } l args
 | n + 1, .deferred f args rc => evBodyD C { call := iterU C T L S n, loop := L } f args rc
theorem iok_iterU {C : Cfg} (hC : COk C) {T : Tree Entry} {k : Nat} {S : SumsU} (hT : AllT (Entry.ok C (Lw k)) T 0 1) (hS : SumsUOk C.P S) : ∀ n, IOk C.P { call := iterU C T (Lw k) S n, loop := Lw k }
 | 0 => ⟨fun _ _ _ _ h hr => absurd h.symm hr, fun _ _ _ _ h hr => absurd h.symm hr, fun _ _ _ _ _ _ h => (by cases h), lok_whileN k⟩
 | n + 1 => by
  have ih := iok_iterU hC hT hS n
  refine ⟨fun f args A r h hr φ w us hg hs ha => ?_, fun _ _ _ _ h hr _ _ _ _ hg hs hb ha => evRound_sound hC ih h hr hg hs hb ha, fun _ _ _ _ _ _ h _ _ _ _ hg hs ha hu => evBodyD_sound hC ih h hg hs ha hu, lok_whileN k⟩
  simp only [iterU] at h
  cases hf : S f args A with
  | some v =>
   rw [hf] at h
   simp only at h
   subst h
   exact hS f args A v hf φ w us hg hs ha
  | none =>
   rw [hf] at h
   simp only at h
   cases hT' : T.get f with
   | none => rw [hT'] at h; exact evBody_sound hC ih h hr hg hs ha
   | some e =>
    rw [hT'] at h
    simp only [Entry.run] at h
    cases hp : shsPrj e.sh args with
    | none =>
     rw [hp] at h
     exact evBody_sound hC ih h hr hg hs ha
    | some x =>
     rw [hp] at h
     have h : e.tx (iterU C T (Lw k) S n) x A = r := h
     have h9 := hT.get f e hT' (iterU C T (Lw k) S n) x
     rw [Nat.zero_add, Nat.one_mul] at h9
     rw [← h9, shsInj_prj hp] at h
     exact evBody_sound hC ih h hr hg hs ha
def tabsOf (os : List (Nat × AObj)) : Tabs := fun b => match lkObj os b with
 | some (.pin r p) => some (r, p)
 | _ => none
theorem tabsOf_some {os : List (Nat × AObj)} {g : Nat} {r : Row} {p : Obj} (h : lkObj os g = some (.pin r p)) : tabsOf os g = some (r, p) := by
 unfold tabsOf
 rw [h]
theorem pins_of {P : Program} {φ : Phi} {A : AW} {w : World} {os : List (Nat × AObj)} (hg : GlobOk P φ) (hs : Sim P φ A w) (hlt : ∀ b o, lkObj os b = some o → b < P.globals.size ∧ ∃ r p, o = .pin r p ∧ ∀ v ∈ r.list, notHole v = true → solid1 v = true)
  (hA : ∀ g r p, tabsOf os g = some (r, p) → A.get g = some (.pin r p)) : PinsOk P os P.globals.size id w := by
 refine ⟨fun b o ho => ?_, fun b b' _ _ _ _ h => h, Nat.le_refl _, fun _ _ => rfl⟩
 obtain ⟨hb, r, p, rfl, hsol⟩ := hlt b o ho
 have hAb := hA b r p (tabsOf_some ho)
 refine ⟨hb, r, p, rfl, ?_⟩
 rcases hg b hb with e | ⟨ex, e⟩
 ·rw [hs.dead b e] at hAb; cases hAb
 ·obtain ⟨o, o', k1, k2, k3⟩ := hs.obj b b ex e
  rw [hAb] at k1
  obtain rfl := Option.some.inj k1
  obtain ⟨rfl, arr, e', fz, q1, q2, q3⟩ := k3
  refine ⟨k2, arr, e', fz, q1, q2, fun i v u g1 g2 g3 => ?_⟩
  have hv := hsol v (List.mem_of_getElem? g1) g2
  rw [solid1_same hv (q3 i v u g1 g2 g3)]
  exact solid1_vr hv
open Classical in
noncomputable def sumTabs (g : Nat) (v : Value) (os : List (Nat × AObj)) : SumsU := fun f args A => if f = g ∧ args = [] ∧ ∀ h r p, tabsOf os h = some (r, p) → A.get h = some (.pin r p) then some (v, A) else none
theorem sumTabs_ok {P : Program} {g : Nat} {v : Value} {os : List (Nat × AObj)} (hv : solid v = true) (hlt : ∀ b o, lkObj os b = some o → b < P.globals.size ∧ ∃ r p, o = .pin r p ∧ ∀ v ∈ r.list, notHole v = true → solid1 v = true)
  (h : ∀ w, PinsOk P os P.globals.size id w → CallsIn Fence.wide 0 P g #[] w fun e w' => e = .returned v ∧ Below w.heap.size w w') : SumsUOk P (sumTabs g v os) := by
 intro f args A u hu
 unfold sumTabs at hu
 split at hu
 ·rename_i hc
  obtain ⟨rfl, rfl, hA⟩ := hc
  obtain rfl := Option.some.inj hu
  exact fun φ w us hg hs ha => callEnd_solid rfl hv hs ha (h w (pins_of hg hs hlt hA))
 ·cases hu
theorem sumTabs_at {g : Nat} {v : Value} {os : List (Nat × AObj)} {A : AW} (h : ∀ h r p, tabsOf os h = some (r, p) → A.get h = some (.pin r p)) : sumTabs g v os g [] A = some (v, A) := by
 unfold sumTabs
 rw [if_pos ⟨rfl, rfl, h⟩]
theorem sumTabs_no {g f : Nat} {v : Value} {os : List (Nat × AObj)} {args : List Value} {A : AW} (h : f ≠ g) : sumTabs g v os f args A = none := by
 unfold sumTabs
 rw [if_neg fun e => h e.1]
def Goes (Xs : Nat → Task → M Value) (d f : Nat) (args : List Value) (A : AW) (Q : Value → AW → Prop) : Prop := ∀ n, d ≤ n → Ev (Xs n (.call f args)) A Q
def Gives (T : Tabs) (Xs : Nat → Task → M Value) (d f : Nat) (args : List Value) (v : Value) : Prop := ∀ A l Q, Hp T A l → (∀ A', Hp T A' l → Q v A') → Goes Xs d f args A Q
theorem Goes.of_text {C : Cfg} {tr : Tree Entry} {L : LoopI} {S : SumsU} {d f : Nat} {args : List Value} {A : AW} {Q : Value → AW → Prop} {e : Entry} {x : ShsT e.sh} (hS : S f args A = none) (hT : tr.get f = some e) (hx : shsPrj e.sh args = some x)
  (h : ∀ n, d ≤ n → Ev (e.tx (iterU C tr L S n) x) A Q) : Goes (iterU C tr L S) (d + 1) f args A Q := by
 intro n hn
 cases n with
 | zero => omega
 | succ n =>
  obtain ⟨y, A', h1, h2⟩ := h n (by omega)
  refine ⟨y, A', ?_, h2⟩
  simp only [iterU, hS, hT, Entry.run, hx]
  exact h1
theorem Goes.mono {Xs : Nat → Task → M Value} {d d' f : Nat} {args : List Value} {A : AW} {Q : Value → AW → Prop} (h : Goes Xs d f args A Q) (hd : d ≤ d') : Goes Xs d' f args A Q := fun n hn => h n (Nat.le_trans hd hn)
theorem Gives.mono {T : Tabs} {Xs : Nat → Task → M Value} {d d' f : Nat} {args : List Value} {v : Value} (h : Gives T Xs d f args v) (hd : d ≤ d') : Gives T Xs d' f args v := fun A l Q h1 h2 => (h A l Q h1 h2).mono hd
theorem Gives.use {T : Tabs} {Xs : Nat → Task → M Value} {d f n : Nat} {args : List Value} {v : Value} {ρ : Type} {r : RSh} {K : r.T → M ρ} {A : AW} {l : List Thing} {Q : ρ → AW → Prop} {x : r.T} (h : Gives T Xs d f args v) (hn : d ≤ n) (hp : Hp T A l) (hx : r.prj v = some x)
  (H : ∀ A', Hp T A' l → Ev (K x) A' Q) : Ev (M.callS r (Xs n (.call f args)) K) A Q :=
 ev_call (h A l _ hp (fun A' h' => ⟨x, hx, H A' h'⟩) n hn)
def BA (l : List UInt8) : ByteArray := ⟨⟨l⟩⟩
theorem BA_data (l : List UInt8) : (BA l).data.toList = l := rfl
theorem BA_of (s : ByteArray) : s = BA s.data.toList := rfl
theorem BA_size (l : List UInt8) : (BA l).size = l.length := rfl
theorem BA_append (a b : List UInt8) : BA a ++ BA b = BA (a ++ b) := by
 apply ByteArray.ext
 apply Array.ext'
 simp [BA]
theorem BA_extract (l : List UInt8) (i j : Nat) : (BA l).extract i j = BA ((l.take j).drop i) := by
 apply ByteArray.ext
 apply Array.ext'
 rw [ByteArray.data_extract]
 simp [BA, List.drop_take]
theorem BA_seq (a b : List UInt8) : seq (BA a) (BA b) = decide (a = b) := by
 unfold seq
 rw [BA_data, BA_data]
 by_cases h : a = b
 ·subst h; simp
 ·rw [decide_eq_false h]; simpa using h
theorem BA_byteAt (l : List UInt8) (i : Int) : byteAt (BA l) i = (((l[i.toNat]?).getD 0).toNat : Int) := by
 unfold byteAt
 rw [BA_data, List.getD_eq_getElem?_getD]
theorem BA_prj (l : List UInt8) : (⟨⟨l⟩⟩ : ByteArray) = BA l := rfl
theorem wrap_i64 {a : Int} (h1 : -2 ^ 63 ≤ a) (h2 : a < 2 ^ 63) : IntKind.i64.wrap a = a := by
 unfold IntKind.wrap
 simp only [show IntKind.i64.bits = 64 from rfl, show IntKind.i64.signed = true from rfl, Bool.true_and]
 by_cases h : a < 0
 ·rw [if_pos (decide_eq_true (by omega))]; omega
 ·rw [if_neg (by rw [decide_eq_true_eq]; omega)]; omega
theorem addW_i64 {a b : Nat} (h : a + b < 2 ^ 63) : addW .i64 (a : Int) (b : Int) = ((a + b : Nat) : Int) := by
 rw [addW_eq, wrap_i64 (by omega) (by omega)]; simp
theorem subW_i64 {a b : Nat} (h : b ≤ a) (h2 : a < 2 ^ 63) : subW .i64 (a : Int) (b : Int) = ((a - b : Nat) : Int) := by
 rw [subW_eq, wrap_i64 (by omega) (by omega)]; omega
theorem upB_nat (a b : Nat) : upB (a : Int) b = decide (a ≤ b) := by
 rw [upB_eq]
 by_cases h : a ≤ b <;> simp [h]
theorem inB_nat (a b : Nat) : inB (a : Int) b = decide (a < b) := by
 rw [inB_eq]
 by_cases h : a < b <;> simp [h]
theorem ltB_nat (a b : Nat) : ltB (a : Int) (b : Int) = decide (a < b) := by
 rw [ltB_eq]
 by_cases h : a < b <;> simp [h]
theorem leB_nat (a b : Nat) : leB (a : Int) (b : Int) = decide (a ≤ b) := by
 rw [leB_eq]
 by_cases h : a ≤ b <;> simp [h]
theorem eqB_nat (a b : Nat) : eqB (a : Int) (b : Int) = decide (a = b) := by
 rw [eqB_eq]
 by_cases h : a = b
 ·subst h; simp
 ·rw [decide_eq_false h]
  simp only [beq_eq_false_iff_ne, ne_eq]
  omega
end Go.Eng
namespace Go.Eng
open Go
theorem orW_nat (k : IntKind) {a b : Nat} (ha : a ≤ topK k) (hb : b ≤ topK k) : orW k (a : Int) (b : Int) = ((a ||| b : Nat) : Int) := by
 show (Bool.rec (motive := fun _ => Int) _ (Bool.rec (motive := fun _ => Int) _ (forceN (Nat.lor a b) fun x => Int.ofNat x) (Nat.ble b (topK k))) (Nat.ble a (topK k)) : Int) = _
 rw [Nat.ble_eq_true_of_le ha, Nat.ble_eq_true_of_le hb, forceN_eq]
 rfl
theorem andW_nat (k : IntKind) {a b : Nat} (ha : a ≤ topK k) (hb : b ≤ topK k) : andW k (a : Int) (b : Int) = ((a &&& b : Nat) : Int) := by
 show (Bool.rec (motive := fun _ => Int) _ (Bool.rec (motive := fun _ => Int) _ (forceN (Nat.land a b) fun x => Int.ofNat x) (Nat.ble b (topK k))) (Nat.ble a (topK k)) : Int) = _
 rw [Nat.ble_eq_true_of_le ha, Nat.ble_eq_true_of_le hb, forceN_eq]
 rfl
theorem and_low (a k : Nat) : a &&& (2 ^ k - 1) = a % 2 ^ k := Nat.and_two_pow_sub_one_eq_mod a k
theorem or_low {a b k : Nat} (h : b < 2 ^ k) : (a * 2 ^ k) ||| b = a * 2 ^ k + b := by
 rw [Nat.mul_comm]
 exact (Nat.two_pow_add_eq_or_of_lt h a).symm
theorem wrapW_nat {k : IntKind} {a : Nat} (h : a ≤ topK k) : wrapW k (a : Int) = (a : Int) := by
 rw [wrapW_eq]
 exact wrap_le h
theorem wrap_nat {k : IntKind} {a : Nat} (h : a ≤ topK k) : k.wrap (a : Int) = (a : Int) := wrap_le h
theorem mulW_i64 {a b : Nat} (h : a * b < 2 ^ 63) : mulW .i64 (a : Int) (b : Int) = ((a * b : Nat) : Int) := by
 rw [mulW_eq, show (a : Int) * b = ((a * b : Nat) : Int) by simp]
 exact wrap_le (by show a * b ≤ 9223372036854775807; omega)
theorem fdiv_nat (a b : Nat) : ((a : Int)).fdiv (b : Int) = ((a / b : Nat) : Int) := by
 cases b with
 | zero => simp
 | succ b => rw [Int.fdiv_eq_ediv_of_nonneg _ (by omega)]; rfl
section
variable {ρ J : Type} {A : AW} {Q : ρ → AW → Prop}
theorem ev_join {k : J → M ρ} {f : (J → M ρ) → M ρ} (P : J → AW → Prop) (hk : ∀ j A', P j A' → Ev (k j) A' Q) (hf : ∀ go : J → M ρ, (∀ j A', P j A' → Ev (go j) A' Q) → Ev (f go) A Q) : Ev (M.join k f) A Q := hf k hk
end
end Go.Eng
namespace Go.Eng
open Go
theorem add0 (b k : Nat) : (Addr.mk b 0 none).add k = ⟨b, k, none⟩ := by
 unfold Addr.add
 split
 ·rename_i h; rw [h]
 ·simp
end Go.Eng
namespace Go.Eng
open Go
section
variable {T : Tabs} {ρ σ : Type} {A : AW} {Q : ρ → AW → Prop} {l : List Thing} {P : Program}
theorem Goes.use {Xs : Nat → Task → M Value} {d f n : Nat} {args : List Value} {r : RSh} {K : r.T → M ρ} (h : Goes Xs d f args A (fun v A' => ∃ x, r.prj v = some x ∧ Ev (K x) A' Q)) (hn : d ≤ n) : Ev (M.callS r (Xs n (.call f args)) K) A Q := ev_call (h n hn)
theorem cells_get {i b : Nat} {L : List Value} {e : TypeId} {g ish : Bool} {fz : Nat × Nat} (h : Hp T A l) (hi : l[i]? = some (.cells b L e g fz ish)) : ∃ r, A.get b = some (.cells r e g fz ish) ∧ r.list = L := h.own i _ hi
theorem ev_unsafe (i : Nat) {src dst t b : Nat} {L : List Value} {e : TypeId} {g ish : Bool} {fz : Nat × Nat} {K : Value → M ρ} (h : Hp T A l) (hi : l[i]? = some (.cells b L e g fz ish)) (hs : P.underlying src = some (.pointer t)) (hd : P.underlying dst = some .unsafePointer) (hL : 1 ≤ L.length)
  (hz : pos (sizeT P t) = true) (H : Ev (K (.pointer (some ⟨b, 0, none⟩))) A Q) : Ev (aConvert P src dst (.pointer (some ⟨b, 0, none⟩)) K) A Q := by
 obtain ⟨r, h1, h2⟩ := cells_get h hi
 obtain ⟨y, A', k1, k2⟩ := H
 refine ⟨y, A', ?_, k2⟩
 unfold aConvert
 rw [hs, hd]
 simp only [h1, hz]
 have : r.n = L.length := by rw [← h2, Row.list_length]
 rw [this, show Nat.ble (0 + 1) L.length = true from Nat.ble_eq_true_of_le hL]
 exact k1
theorem ev_unsafe_back (i : Nat) {src dst t b : Nat} {L : List Value} {e : TypeId} {ish : Bool} {fz : Nat × Nat} {K : Value → M ρ} (h : Hp T A l) (hi : l[i]? = some (.cells b L e false fz ish)) (hs : P.underlying src = some .unsafePointer) (hd : P.underlying dst = some (.pointer t))
  (hz : pos (sizeT P t) = true) (hl : liesAt P P.depth e (L.length / P.cellsOf e) 0 t 1 = true) (H : Ev (K (.pointer (some ⟨b, 0, none⟩))) A Q) : Ev (aConvert P src dst (.pointer (some ⟨b, 0, none⟩)) K) A Q := by
 obtain ⟨r, h1, h2⟩ := cells_get h hi
 obtain ⟨y, A', k1, k2⟩ := H
 refine ⟨y, A', ?_, k2⟩
 unfold aConvert
 rw [hs, hd]
 simp only [h1, hz]
 have : r.n = L.length := by rw [← h2, Row.list_length]
 rw [this, hl]
 exact k1
theorem ev_eqPtr_nil {k : Bool → M ρ} {p : Option Addr} (H : Ev (k p.isNone) A Q) : Ev (M.eqPtr p none k) A Q := by
 obtain ⟨y, A', k1, k2⟩ := H
 refine ⟨y, A', ?_, k2⟩
 cases p with
 | none => exact k1
 | some a => exact k1
theorem ev_eqPtr_same (i : Nat) {b : Nat} {L : List Value} {e : TypeId} {g ish : Bool} {fz : Nat × Nat} {k : Bool → M ρ} (h : Hp T A l) (hi : l[i]? = some (.cells b L e g fz ish)) (H : Ev (k true) A Q) : Ev (M.eqPtr (some ⟨b, 0, none⟩) (some ⟨b, 0, none⟩) k) A Q := by
 obtain ⟨r, h1, h2⟩ := cells_get h hi
 obtain ⟨y, A', k1, k2⟩ := H
 refine ⟨y, A', ?_, k2⟩
 unfold M.eqPtr
 simp only [h1, Nat.beq_refl, Bool.true_or, decide_true]
 exact k1
theorem ev_sliceData {t1 n : Nat} {a : Option Addr} {K : Value → M ρ} (hn : a = none ∨ 1 ≤ n) (H : Ev (K (.pointer a)) A Q) : Ev (aBuiltin P .unsafeSliceData #[t1] [.slice a n n] K) A Q := by
 obtain ⟨y, A', k1, k2⟩ := H
 refine ⟨y, A', ?_, k2⟩
 unfold aBuiltin
 cases a with
 | none => exact k1
 | some a =>
  rcases hn with h | h
  ·cases h
  ·show M.guard (Nat.ble 1 n) _ A = _
   rw [Nat.ble_eq_true_of_le h]
   exact k1
theorem ev_unsafeString (i : Nat) {t2 u n c : Nat} {a : Option Addr} {bs : List UInt8} {K : Value → M ρ} (h : Hp T A l) (hi : l[i]? = some (.vec u 1 false a n c (u8s bs))) (ht : P.underlying t2 = some (.pointer u)) (hu : P.underlying u = some (.int .u8)) (hz : sizeT P u = some 1)
  (hn : n < 9223372036854775807) (hna : a = none ∨ 1 ≤ n) (H : ∀ A', Hp T A' (l.eraseIdx i) → Ev (K (.string (BA bs))) A' Q) :
  Ev (aBuiltin P .unsafeString #[t2, 3] [.pointer a, .int .i64 (n : Int)] K) A Q := by
 obtain ⟨o1, rfl, o3⟩ := h.own i _ hi
 rw [u8s_length, Nat.mul_one] at o1
 cases a with
 | none =>
  have hn0 : n = 0 := o3
  subst hn0
  obtain rfl : bs = [] := List.eq_nil_of_length_eq_zero o1
  obtain ⟨y, A', k1, k2⟩ := H A (h.erase i)
  refine ⟨y, A', ?_, k2⟩
  unfold aBuiltin
  simp only [List.getElem?_toArray, List.getElem?_cons_zero, Option.bind_some, ht]
  exact k1
 | some a =>
  have h1n : 1 ≤ n := by
   rcases hna with e | e
   ·cases e
   ·exact e
  obtain ⟨ha, r, j, g1, g2, g3⟩ := o3
  have hj : j = false := by cases j <;> first | rfl | exact absurd (g3 rfl) (by simp)
  subst hj
  have hoff : a.off = 0 := by rw [ha]
  have hsp : a.spot = none := by rw [ha]
  obtain ⟨A1, hA1⟩ : ∃ A1, A1 = A.put a.block (.cells r u true (0, 0 + n) true) := ⟨_, rfl⟩
  have hp1 : Hp T A1 (l.eraseIdx i) := by
   subst hA1
   have := (h.set (t' := .cells a.block (u8s bs) u true (0, 0 + n) true) (A' := A.put a.block (.cells r u true (0, 0 + n) true)) hi (by simp) (fun c _ hc => by
    have : c ≠ a.block := fun e => hc (by rw [e]; rfl)
    simp [this]) ⟨r, by simp, g2⟩ fun c hc => ⟨.inl hc, by simpa using h.lt i _ c hi hc⟩).erase i
   rwa [List.eraseIdx_set_eq] at this
  obtain ⟨y, A', k1, k2⟩ := H A1 hp1
  refine ⟨y, A', ?_, k2⟩
  have hce : A.cellsAt a n = some (u8s bs) := by
   unfold AW.cellsAt
   rw [g1]
   simp only [hsp, hoff, Option.isNone_none, cond_true]
   rw [Row.read_eq, g2, if_pos (by rw [u8s_length]; omega), List.drop_zero, List.take_of_length_le (by rw [u8s_length]; omega)]
  have hfr : A.freezeRow u a n = some (BA bs, A1) := by
   unfold AW.freezeRow
   rw [g1]
   simp only [Nat.beq_refl, hce, Option.bind_some, bytesOf_u8s, hoff, Bool.false_and, Bool.not_false, Bool.and_self, cond_true, hA1]
   rfl
  unfold aBuiltin
  simp only [List.getElem?_toArray, List.getElem?_cons_zero, Option.bind_some, ht, hu, hz, isOne]
  unfold M.unsafeStr
  simp only [decide_eq_false (show ¬ ((n : Int) = 0) by omega), decide_eq_true (show (0 : Int) < (n : Int) by omega), decide_eq_true (show (n : Int) < 9223372036854775807 by omega), Int.toNat_natCast, hfr]
  exact k1
end
end Go.Eng
namespace Go.Eng
open Go
section
variable {T : Tabs} {ρ σ : Type} {A : AW} {Q : ρ → AW → Prop} {l : List Thing} {P : Program}
theorem ev_toStr_row (i : Nat) {b n : Nat} {e : TypeId} {g ish : Bool} {fz : Nat × Nat} {bs : List UInt8} {k : ByteArray → M ρ} (h : Hp T A l) (hi : l[i]? = some (.cells b (u8s bs) e g fz ish)) (hn : n = bs.length) (H : Ev (k (BA bs)) A Q) : Ev (M.toStr (some ⟨b, 0, none⟩) n k) A Q := by
 subst hn
 obtain ⟨y, A', h1, h2⟩ := H
 refine ⟨y, A', ?_, h2⟩
 have := elems_of (n := bs.length) (m := bs.length) (c := bs.length) (esz := 1) h hi rfl (by rw [u8s_length]; omega)
 unfold AW.elems at this
 unfold M.toStr
 simp only at this ⊢
 rw [Nat.mul_one] at this
 rw [this, List.take_of_length_le (by rw [u8s_length]; omega)]
 simp only [Option.bind_some, bytesOf_u8s]
 exact h1
end
theorem BA_from (l : List UInt8) (i : Nat) : (BA l).extract i (BA l).size = BA (l.drop i) := by
 rw [BA_extract, BA_size, List.take_length]
end Go.Eng
namespace Go.Eng
open Go
theorem Hp.vec0 {T : Tabs} {A : AW} {l : List Thing} (h : Hp T A l) (e esz : Nat) (ish : Bool) : Hp T A (.vec e esz ish none 0 0 [] :: l) := h.cons (A' := A) (Nat.le_refl _) (fun _ _ => rfl) ⟨by simp, rfl, rfl⟩ fun b hb => by cases hb
end Go.Eng
namespace Go.Eng
theorem BA_till (l : List UInt8) (i : Nat) : (BA l).extract i l.length = BA (l.drop i) := BA_from l i
end Go.Eng
namespace Go.Eng
section
variable {ρ : Type} {A : AW} {Q : ρ → AW → Prop} {b c : Bool} {m k : M ρ}
theorem ev_or (h : (b || c) = true) (H : Ev m A Q) : Ev (M.ite b (M.ite true m k) (M.ite c m k)) A Q := by
 cases b <;> cases c <;> first | exact H | cases h
theorem ev_nor (h : (b || c) = false) (H : Ev k A Q) : Ev (M.ite b (M.ite true m k) (M.ite c m k)) A Q := by
 cases b <;> cases c <;> first | exact H | cases h
end
end Go.Eng
namespace Go.Eng
open Go
theorem upB_1 (b : Nat) : upB 1 b = decide (1 ≤ b) := upB_nat 1 b
theorem inB_0 (b : Nat) : inB 0 b = decide (0 < b) := inB_nat 0 b
theorem inB_1 (b : Nat) : inB 1 b = decide (1 < b) := inB_nat 1 b
theorem inB_2 (b : Nat) : inB 2 b = decide (2 < b) := inB_nat 2 b
theorem inB_3 (b : Nat) : inB 3 b = decide (3 < b) := inB_nat 3 b
theorem subW_1 {a : Nat} (h : 1 ≤ a) (h2 : a < 2 ^ 63) : subW .i64 (a : Int) 1 = ((a - 1 : Nat) : Int) := subW_i64 (b := 1) h h2
theorem addW_1 {a : Nat} (h : a + 1 < 2 ^ 63) : addW .i64 (a : Int) 1 = ((a + 1 : Nat) : Int) := addW_i64 (b := 1) h
theorem eqB_lit (a n : Nat) : eqB (a : Int) (OfNat.ofNat n) = decide (a = (OfNat.ofNat n : Nat)) := eqB_nat a n
theorem ltB_lit (a n : Nat) : ltB (a : Int) (OfNat.ofNat n) = decide (a < (OfNat.ofNat n : Nat)) := ltB_nat a n
theorem ltB_lit' (a n : Nat) : ltB (OfNat.ofNat n) (a : Int) = decide ((OfNat.ofNat n : Nat) < a) := ltB_nat n a
theorem leB_lit (a n : Nat) : leB (a : Int) (OfNat.ofNat n) = decide (a ≤ (OfNat.ofNat n : Nat)) := leB_nat a n
theorem leB_lit' (a n : Nat) : leB (OfNat.ofNat n) (a : Int) = decide ((OfNat.ofNat n : Nat) ≤ a) := leB_nat n a
end Go.Eng
namespace Go.Eng
theorem ltB_0 (a : Nat) : ltB (a : Int) 0 = false := by
 rw [show (0 : Int) = ((0 : Nat) : Int) from rfl, ltB_nat]
 exact decide_eq_false (by omega)
end Go.Eng
namespace Go.Eng
open Go
theorem wrap_i64n {a : Nat} (h : a < 2 ^ 63) : wrapW .i64 (a : Int) = (a : Int) := wrapW_nat (by show a ≤ 9223372036854775807; omega)
theorem mulW_lit {a n : Nat} (h : (OfNat.ofNat n : Nat) * a < 2 ^ 63) : mulW .i64 (OfNat.ofNat n) (a : Int) = (((OfNat.ofNat n : Nat) * a : Nat) : Int) := mulW_i64 (a := n) h
theorem subW_lit {a n : Nat} (h : (OfNat.ofNat n : Nat) ≤ a) (h2 : a < 2 ^ 63) : subW .i64 (a : Int) (OfNat.ofNat n) = ((a - (OfNat.ofNat n : Nat) : Nat) : Int) := subW_i64 (b := n) h h2
theorem addW_lit {a n : Nat} (h : a + (OfNat.ofNat n : Nat) < 2 ^ 63) : addW .i64 (a : Int) (OfNat.ofNat n) = ((a + (OfNat.ofNat n : Nat) : Nat) : Int) := addW_i64 (b := n) h
end Go.Eng
