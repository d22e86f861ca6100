/-
 The engine, part 30: what a function of the program comes to over an abstract heap; each part is proved against the model.
-/
import Derived.Test.YtlcigkdflbfdgaaGreatDoorEng28
import Derived.Shelf.Strconv.In.ErrVarAll
import Derived.Shelf.Strconv.Itoa3
namespace Go.Eng
open Go Go.RowKit Go.Shelf Go.Proofs Go.Sort
noncomputable def skip (A : AW) : AW := (A.alloc (.iter ⟨⟨[]⟩⟩ 0)).del A.next
theorem skip_get (A : AW) (b : Nat) : (skip A).get b = if b = A.next then none else A.get b := by
 unfold skip
 rw [AW.get_del, AW.get_alloc]
 by_cases h : b = A.next <;> simp [h]
theorem skip_next (A : AW) : (skip A).next = A.next + 1 := rfl
theorem skip_hp {T : Tabs} {A : AW} {l : List Thing} (h : Hp T A l) : Hp T (skip A) l :=
 ⟨fun g r p hg => ⟨by rw [skip_get, if_neg (by have := (h.tab g r p hg).2; omega)]; exact (h.tab g r p hg).1, by rw [skip_next]; have := (h.tab g r p hg).2; omega⟩,
  fun i t ht => Thing.own_congr (fun b hb => by rw [skip_get, if_neg (by have := h.lt i t b ht hb; omega)]) (h.own i t ht),
  fun i t b ht hb => by rw [skip_next]; have := h.lt i t b ht hb; omega, h.apart⟩
def phiSkip (φ : Phi) (n : Nat) : Phi := fun x => if x = n then some none else φ x
theorem sim_skip {P : Program} {φ : Phi} {A : AW} {w w' : World} (h : Sim P φ A w) (b : Below w.heap.size w w') :
  Sim P (phiSkip φ A.next) (skip A) w' ∧ Onw φ A w (phiSkip φ A.next) (skip A) w' := by
 obtain ⟨s1, s2⟩ := h.below b
 have hn : φ A.next = none := h.unused
 have hle : Le φ (phiSkip φ A.next) := fun x y hx => .inl (by
  unfold phiSkip
  rw [if_neg fun e => by rw [e, hn] at hx; cases hx]
  exact hx)
 refine ⟨⟨fun x c ex hx => ?_, fun x y c e e' hx hy => ?_, fun x hx => ?_, fun x hx => ?_, fun x hx => ?_⟩, ⟨hle, s2.size, by rw [skip_next]; omega, fun c hc k => s2.conc c hc k, fun x c ex hx hc => ?_, fun x hx hx' => ?_, s2.out⟩⟩
 ·unfold phiSkip at hx
  split at hx
  ·cases hx
  ·rename_i e
   obtain ⟨o, o', g1, g2, g3⟩ := s1.obj x c ex hx
   exact ⟨o, o', by rw [skip_get, if_neg e]; exact g1, g2, g3.mono hle⟩
 ·unfold phiSkip at hx hy
  split at hx
  ·cases hx
  ·split at hy
   ·cases hy
   ·exact s1.inj x y c e e' hx hy
 ·unfold phiSkip at hx
  rw [skip_next]
  split at hx
  ·omega
  ·have := s1.bound x hx; omega
 ·unfold phiSkip at hx
  rw [skip_get]
  split at hx
  ·rename_i e; rw [if_pos e]
  ·rename_i e; rw [if_neg e]; exact s1.dead x hx
 ·rw [skip_next] at hx
  rw [skip_get, if_neg (by omega)]
  exact s1.fresh x (by omega)
 ·unfold phiSkip at hx
  split at hx
  ·cases hx
  ·exact s2.range x c ex hx hc
 ·unfold phiSkip
  rw [skip_get, if_neg (by omega), if_neg (by omega)]
  exact ⟨hx', rfl⟩
theorem below_grown_k (w : World) (q : Nat) (os : Array Obj) : Below w.heap.size w (grow (w.drewN q) os) :=
 ⟨rfl, rfl, rfl, by first | (simp [grow]; done) | (simp [grow]; omega), fun i hi => by
  show ((w.drewN q).heap ++ os)[i]? = _
  rw [Array.getElem?_append_left (by show i < w.heap.size; omega)]
  rfl⟩
theorem pinned_heap {P : Program} {φ : Phi} {A : AW} {w : World} {g : Nat} {r : Row} {p : Obj} (hg : GlobOk P φ) (hs : Sim P φ A w) (hb : g < P.globals.size) (hA : A.get g = some (.pin r p)) : w.heap[g]? = some p := by
 rcases hg g hb with e | ⟨ex, e⟩
 ·rw [hs.dead g e] at hA; cases hA
 ·obtain ⟨o, o', k1, k2, k3⟩ := hs.obj g g ex e
  rw [hA] at k1
  obtain rfl := Option.some.inj k1
  obtain ⟨rfl, _⟩ := k3
  exact k2
structure NumWorld (P : Program) (ρ : Ren) (w : World) : Prop where
 pow : Lib.TabIs P w "internal/strconv.uint64pow10" .u64 Lib.pow10Tab
 syn : ∃ ev, w.cell? ⟨ρ.g 15, 0, none⟩ = some ev ∧ (ev = .nilIface ∨ ∃ te pe, ev = .iface te pe)
 rng : ∃ ev, w.cell? ⟨ρ.g 16, 0, none⟩ = some ev ∧ (ev = .nilIface ∨ ∃ te pe, ev = .iface te pe)
def inI64 (n : Int) : Bool := decide (-9223372036854775808 ≤ n ∧ n ≤ 9223372036854775807)
noncomputable def atoiEnd (te : Nat) (l : List UInt8) (A : AW) : Value × AW := match Lib.atoiAll l with
 | .ok n => (.tuple ⟨[.int .i64 n, .nilIface]⟩, A)
 | .range => (.tuple ⟨[.int .i64 (Lib.atoiSat l), .iface te (.pointer (some ⟨A.next, 0, none⟩))]⟩, skip A)
 | _ => (.tuple ⟨[.int .i64 0, .iface te (.pointer (some ⟨A.next, 0, none⟩))]⟩, skip A)
open Classical in
noncomputable def sumNum (gi ga te : Nat) (os : List (Nat × AObj)) (S : SumsU) : SumsU := fun f args A =>
 if f = gi then (match args with
  | [.int .i64 n] => if inI64 n = true ∧ ∀ h r p, tabsOf os h = some (r, p) → A.get h = some (.pin r p) then some (.string (BA (Lib.itoa n)), A) else none
  | _ => none)
 else if f = ga then (match args with
  | [.string s] => if s.size ≤ 281474976710656 ∧ ∀ h r p, tabsOf os h = some (r, p) → A.get h = some (.pin r p) then some (atoiEnd te s.data.toList A) else none
  | _ => none)
 else S f args A
theorem sumNum_itoa {gi ga te : Nat} {os : List (Nat × AObj)} {S : SumsU} {A : AW} {n : Int} (hn : inI64 n = true) (h : ∀ h r p, tabsOf os h = some (r, p) → A.get h = some (.pin r p)) : sumNum gi ga te os S gi [.int .i64 n] A = some (.string (BA (Lib.itoa n)), A) := by
 unfold sumNum
 rw [if_pos rfl]
 simp only
 rw [if_pos ⟨hn, h⟩]
theorem sumNum_atoi {gi ga te : Nat} {os : List (Nat × AObj)} {S : SumsU} {A : AW} {s : List UInt8} (hne : ga ≠ gi) (hs : s.length ≤ 281474976710656) (h : ∀ h r p, tabsOf os h = some (r, p) → A.get h = some (.pin r p)) : sumNum gi ga te os S ga [.string (BA s)] A = some (atoiEnd te s A) := by
 unfold sumNum
 rw [if_neg hne, if_pos rfl]
 simp only
 rw [if_pos ⟨hs, h⟩]
 rfl
theorem sumNum_else {gi ga te f : Nat} {os : List (Nat × AObj)} {S : SumsU} {args : List Value} {A : AW} (h1 : f ≠ gi) (h2 : f ≠ ga) : sumNum gi ga te os S f args A = S f args A := by
 unfold sumNum
 rw [if_neg h1, if_neg h2]
theorem sumNum_no {gi ga te f : Nat} {os : List (Nat × AObj)} {S : SumsU} {args : List Value} {A : AW} (h1 : f ≠ gi) (h2 : f ≠ ga) (h3 : S f args A = none) : sumNum gi ga te os S f args A = none := by
 unfold sumNum
 rw [if_neg h1, if_neg h2, h3]
theorem vr_gone {φ : Phi} {A : AW} {n : Int} {te N : Nat} : VR (phiSkip φ A.next) (.tuple ⟨[.int .i64 n, .iface te (.pointer (some ⟨A.next, 0, none⟩))]⟩) (.tuple ⟨[.int .i64 n, .iface te (.pointer (some ⟨N, 0, none⟩))]⟩) := by
 have hp : VR (phiSkip φ A.next) (.pointer (some ⟨A.next, 0, none⟩)) (.pointer (some ⟨N, 0, none⟩)) := .ptr ⟨none, by unfold phiSkip; rw [if_pos rfl], fun _ _ h => by cases h⟩
 refine .tuple rfl fun i x y hx hy => ?_
 match i with
 | 0 =>
  obtain rfl := Option.some.inj hx
  obtain rfl := Option.some.inj hy
  exact .int _ _
 | 1 =>
  obtain rfl := Option.some.inj hx
  obtain rfl := Option.some.inj hy
  exact .iface _ hp
 | i + 2 => simp at hx
theorem sumNum_ok {P : Program} {ρ : Ren} {os : List (Nat × AObj)} {S : SumsU} (hS : SumsUOk P S) (La : LaysC.n172 P ρ)
  (hW : ∀ φ A w, GlobOk P φ → Sim P φ A w → (∀ h r p, tabsOf os h = some (r, p) → A.get h = some (.pin r p)) → NumWorld P ρ w) : SumsUOk P (sumNum (ρ.f 171) (ρ.f 172) (ρ.t 168) os S) := by
 intro f args A r hr φ w us hg hs ha
 unfold sumNum at hr
 split at hr
 ·rename_i hf
  subst hf
  split at hr
  ·rename_i n
   split at hr
   ·rename_i hc
    obtain rfl := Option.some.inj hr
    obtain ⟨h0, h1⟩ := of_decide_eq_true hc.1
    have hw := hW φ A w hg hs hc.2
    refine callEnd_solid rfl rfl hs ha (callsIn_wide.2 ((Any.strconv_Itoa { La with } n h0 h1 w hw.pow).mono ?_))
    rintro e w' ⟨rfl, k, os, rfl⟩
    exact ⟨rfl, below_grown_k w k os⟩
   ·cases hr
  ·cases hr
 ·split at hr
  ·rename_i hf
   subst hf
   split at hr
   ·rename_i s
    split at hr
    ·rename_i hc
     obtain rfl := Option.some.inj hr
     have hw := hW φ A w hg hs hc.2
     obtain rfl := solid_args (l := [.string s]) rfl ha
     unfold atoiEnd
     cases hk : Lib.atoiAll s.data.toList with
     | ok v =>
      show CallsIn _ _ _ _ _ _ (CallEnd P φ A w (.ok (.tuple ⟨[.int .i64 v, .nilIface]⟩) A))
      refine callEnd_vr rfl (.tuple rfl fun i x y hx hy => ?_) hs ha (CallsIn.mono (AnyS.strconv_Atoi_ok_in La Fence.wide 0 rfl (fun _ _ => trivial) (fun h => by cases h) s (by omega) v hk w) ?_)
      ·match i with
       | 0 =>
        obtain rfl := Option.some.inj hx
        obtain rfl := Option.some.inj hy
        exact .int _ _
       | 1 =>
        obtain rfl := Option.some.inj hx
        obtain rfl := Option.some.inj hy
        exact .nilIface
       | i + 2 => simp at hx
      ·rintro e w' ⟨rfl, h⟩
       refine ⟨rfl, ?_⟩
       rcases h with rfl | ⟨t, rfl⟩
       ·exact Below.refl _ _
       ·exact Lib.bytesWorld_below _ _ _
     | range =>
      obtain ⟨ev, e1, e2⟩ := hw.rng
      refine CallsIn.mono (AnyS.strconv_Atoi_range_in La Fence.wide 0 rfl (fun _ _ => trivial) (fun h => by cases h) s hc.1 hk ev w e1 e2) ?_
      rintro e w' ⟨N, rfl, _, _, hb⟩
      obtain ⟨s1, s2⟩ := sim_skip hs hb
      exact ⟨_, _, _, rfl, vr_gone, s1, s2⟩
     | _ =>
      obtain ⟨ev, e1, e2⟩ := hw.syn
      refine CallsIn.mono (AnyS.strconv_Atoi_syntax_in La Fence.wide 0 rfl (fun _ _ => trivial) (fun h => by cases h) s hc.1 hk ev w e1 e2) ?_
      rintro e w' ⟨N, rfl, _, _, hb⟩
      obtain ⟨s1, s2⟩ := sim_skip hs hb
      exact ⟨_, _, _, rfl, vr_gone, s1, s2⟩
    ·cases hr
   ·cases hr
  ·exact hS f args A r hr φ w us hg hs ha
end Go.Eng
namespace Go.Eng
open Go
def Apart (t u : Thing) : Prop := ∀ b, t.spot = some b → u.spot ≠ some b
theorem Apart.symm {t u : Thing} (h : Apart t u) : Apart u t := fun b hb hc => h b hc hb
theorem hp_iff {T : Tabs} {A : AW} {l : List Thing} : Hp T A l ↔ (∀ g r p, T g = some (r, p) → A.get g = some (.pin r p) ∧ g < A.next) ∧ (∀ t ∈ l, t.own A) ∧ (∀ t ∈ l, ∀ b, t.spot = some b → b < A.next) ∧ l.Pairwise Apart := by
 constructor
 ·intro h
  refine ⟨h.tab, fun t ht => ?_, fun t ht b hb => ?_, ?_⟩
  ·obtain ⟨i, hi⟩ := List.mem_iff_getElem?.1 ht
   exact h.own i t hi
  ·obtain ⟨i, hi⟩ := List.mem_iff_getElem?.1 ht
   exact h.lt i t b hi hb
  ·rw [List.pairwise_iff_getElem]
   intro i j hi hj hij b hb
   exact h.apart i j _ _ b (by omega) (List.getElem?_eq_getElem hi) (List.getElem?_eq_getElem hj) hb
 ·rintro ⟨h1, h2, h3, h4⟩
  refine ⟨h1, fun i t ht => h2 t (List.mem_of_getElem? ht), fun i t b ht hb => h3 t (List.mem_of_getElem? ht) b hb, fun i j t u b hij ht hu hb => ?_⟩
  obtain ⟨hi, rfl⟩ := List.getElem?_eq_some_iff.1 ht
  obtain ⟨hj, rfl⟩ := List.getElem?_eq_some_iff.1 hu
  rw [List.pairwise_iff_getElem] at h4
  rcases Nat.lt_or_gt_of_ne hij with h | h
  ·exact h4 i j hi hj h b hb
  ·exact (h4 j i hj hi h).symm b hb
theorem Hp.sub {T : Tabs} {A : AW} {l l' : List Thing} (h : Hp T A l) (s : l'.Sublist l) : Hp T A l' := by
 rw [hp_iff] at h ⊢
 exact ⟨h.1, fun t ht => h.2.1 t (s.subset ht), fun t ht => h.2.2.1 t (s.subset ht), h.2.2.2.sublist s⟩
theorem Hp.perm {T : Tabs} {A : AW} {l l' : List Thing} (h : Hp T A l) (p : l.Perm l') : Hp T A l' := by
 rw [hp_iff] at h ⊢
 exact ⟨h.1, fun t ht => h.2.1 t (p.mem_iff.2 ht), fun t ht => h.2.2.1 t (p.mem_iff.2 ht), (p.pairwise_iff fun h => h.symm).1 h.2.2.2⟩
def Has (T : Tabs) (D : List Thing) (A : AW) : Prop := (∀ g r p, T g = some (r, p) → A.get g = some (.pin r p)) ∧ ∀ t ∈ D, t.own A
section
variable {T : Tabs} {A : AW} {l D E : List Thing}
theorem Hp.has (h : Hp T A l) (hs : ∀ t ∈ D, t ∈ l) : Has T D A := ⟨fun g r p e => (h.tab g r p e).1, fun t ht => by
 obtain ⟨i, hi⟩ := List.mem_iff_getElem?.1 (hs t ht)
 exact h.own i t hi⟩
theorem Has.mono (h : Has T D A) (hs : ∀ t ∈ E, t ∈ D) : Has T E A := ⟨h.1, fun t ht => h.2 t (hs t ht)⟩
theorem peek_own {t : Thing} {b n o : Nat} {L : List Value} (ho : t.own A) (ht : t.row = some (b, L)) (hl : o + n ≤ L.length) : A.peek ⟨b, o, none⟩ n = some ((L.drop o).take n) := by
 have key : ∀ r : Row, r.list = L → r.read o n = some ((L.drop o).take n) := fun r hr => by rw [Row.read_eq, hr, if_pos hl]
 cases t with
 | cells b' L' e g fz ish =>
  obtain ⟨r, h1, h2⟩ := ho
  simp only [Thing.row, Option.some.injEq, Prod.mk.injEq] at ht
  obtain ⟨rfl, rfl⟩ := ht
  unfold AW.peek
  rw [h1]
  exact key r h2
 | iter b' s p => cases ht
 | vec e esz ish a n' c L' =>
  cases a with
  | none => cases ht
  | some a =>
   obtain ⟨_, _, h3, r, j, h1, h2, _⟩ := ho
   simp only [Thing.row, Option.some.injEq, Prod.mk.injEq] at ht
   obtain ⟨rfl, rfl⟩ := ht
   unfold AW.peek
   rw [h1]
   exact key r h2
theorem elems_own {t : Thing} {b n m c esz : Nat} {L : List Value} (ho : t.own A) (ht : t.row = some (b, L)) (hl : n * esz ≤ L.length) : A.elems esz n (.slice (some ⟨b, 0, none⟩) m c) = some (L.take (n * esz)) := by
 have h := peek_own (o := 0) (n := n * esz) ho ht (by omega)
 rw [List.drop_zero] at h
 unfold AW.elems
 simp only
 have key : ∀ r : Row, r.list = L → r.read 0 (n * esz) = some (L.take (n * esz)) := fun r hr => by rw [Row.read_eq, hr, if_pos (by omega), List.drop_zero]
 unfold AW.peek
 cases t with
 | cells b' L' e g fz ish =>
  obtain ⟨r, h1, h2⟩ := ho
  simp only [Thing.row, Option.some.injEq, Prod.mk.injEq] at ht
  obtain ⟨rfl, rfl⟩ := ht
  simp only [h1]
  exact key r h2
 | iter b' s p => cases ht
 | vec e esz ish a n' c L' =>
  cases a with
  | none => cases ht
  | some a =>
   obtain ⟨_, _, h3, r, j, h1, h2, _⟩ := ho
   simp only [Thing.row, Option.some.injEq, Prod.mk.injEq] at ht
   obtain ⟨rfl, rfl⟩ := ht
   simp only [h1]
   exact key r h2
def SeesB (T : Tabs) (D : List Thing) (a : Option Addr) (n : Nat) (bs : List UInt8) : Prop := n = bs.length ∧ ∀ A, Has T D A → ∀ (ρ : Type) (k : ByteArray → M ρ), M.toStr a n k A = k (BA bs) A
theorem SeesB.mono {a : Option Addr} {n : Nat} {bs : List UInt8} (h : SeesB T D a n bs) (hs : ∀ t ∈ D, t ∈ E) : SeesB T E a n bs := ⟨h.1, fun A hA => h.2 A (hA.mono hs)⟩
theorem SeesB.nil : SeesB T D none 0 [] := ⟨rfl, fun _ _ _ _ => rfl⟩
theorem SeesB.vec {e n c : Nat} {a : Option Addr} {ish : Bool} {bs : List UInt8} (hm : .vec e 1 ish a n c (u8s bs) ∈ D) (hn : n = bs.length) : SeesB T D a n bs := ⟨hn, fun A hA ρ k => by
 have ho := hA.2 _ hm
 cases a with
 | none =>
  have h3 : n = 0 := ho.2.2
  obtain rfl : bs = [] := List.eq_nil_of_length_eq_zero (by omega)
  subst h3
  rfl
 | some a =>
  have ha := ho.2.2.1
  have := elems_own (n := n) (m := n) (c := n) (esz := 1) ho rfl (by rw [u8s_length]; omega)
  unfold M.toStr
  unfold AW.elems at this
  rw [ha] at *
  simp only at this ⊢
  rw [Nat.mul_one] at this
  rw [this, List.take_of_length_le (by rw [u8s_length]; omega)]
  simp only [Option.bind_some, bytesOf_u8s]
  rfl⟩
theorem ev_see {ρ : Type} {Q : ρ → AW → Prop} {a : Option Addr} {n : Nat} {bs : List UInt8} {k : ByteArray → M ρ} (hp : Hp T A l) (hs : ∀ t ∈ D, t ∈ l) (h : SeesB T D a n bs) (H : Ev (k (BA bs)) A Q) : Ev (M.toStr a n k) A Q := by
 obtain ⟨y, A', h1, h2⟩ := H
 exact ⟨y, A', (h.2 A (hp.has hs) ρ k).trans h1, h2⟩
def RowsAt (T : Tabs) (D : List Thing) (a : Option Addr) (n esz : Nat) (L : List Value) : Prop := L.length = n * esz ∧ ∀ A, Has T D A → (∀ i, i < n → ∃ b, a = some b ∧ A.peek (b.add (i * esz)) esz = some ((L.drop (i * esz)).take esz)) ∧ ∀ m c, A.elems esz n (.slice a m c) = some L
theorem RowsAt.mono {a : Option Addr} {n esz : Nat} {L : List Value} (h : RowsAt T D a n esz L) (hs : ∀ t ∈ D, t ∈ E) : RowsAt T E a n esz L := ⟨h.1, fun A hA => h.2 A (hA.mono hs)⟩
theorem RowsAt.nil {esz : Nat} : RowsAt T D none 0 esz [] := ⟨by simp, fun _ _ => ⟨fun _ h => absurd h (Nat.not_lt_zero _), fun _ _ => rfl⟩⟩
theorem mul_le_of_lt {i n k : Nat} (h : i < n) : i * k + k ≤ n * k := by
 have := Nat.mul_le_mul_right k (show i + 1 ≤ n from h)
 rw [Nat.add_mul, Nat.one_mul] at this
 exact this
theorem RowsAt.vec {e esz n c : Nat} {a : Option Addr} {ish : Bool} {L : List Value} (hm : .vec e esz ish a n c L ∈ D) (hn : L.length = n * esz) : RowsAt T D a n esz L := ⟨hn, fun A hA => by
 have ho := hA.2 _ hm
 cases a with
 | none =>
  have h3 : n = 0 := ho.2.2
  subst h3
  obtain rfl : L = [] := List.eq_nil_of_length_eq_zero (by rw [hn, Nat.zero_mul])
  exact ⟨fun i h => absurd h (Nat.not_lt_zero _), fun _ _ => rfl⟩
 | some a =>
  have ha := ho.2.2.1
  refine ⟨fun i hi => ⟨a, rfl, ?_⟩, fun m c => ?_⟩
  ·have := peek_own (o := i * esz) (n := esz) ho rfl (by rw [hn]; exact mul_le_of_lt hi)
   rw [ha, add0]
   exact this
  ·rw [ha]
   have := elems_own (n := n) (m := m) (c := c) (esz := esz) ho rfl (by rw [hn]; exact Nat.le_refl _)
   rw [this, List.take_of_length_le (by rw [hn]; exact Nat.le_refl _)]⟩
theorem RowsAt.some {a : Option Addr} {n esz : Nat} {L : List Value} (h : RowsAt T D a n esz L) (hA : Has T D A) {i : Nat} (hi : i < n) : ∃ b, a = some b := by
 obtain ⟨b, hb, _⟩ := (h.2 A hA).1 i hi
 exact ⟨b, hb⟩
theorem ev_rec {ρ : Type} {Q : ρ → AW → Prop} {s : Sh} {b : Addr} {n esz i : Nat} {L : List Value} {k : s.T → M ρ} {x : s.T} (hp : Hp T A l) (hs : ∀ t ∈ D, t ∈ l) (h : RowsAt T D (Option.some b) n esz L) (hi : i < n) (hx : s.ofCells ((L.drop (i * esz)).take esz) = Option.some x) (H : Ev (k x) A Q) :
  Ev (M.load s esz (b.add (i * esz)) k) A Q := by
 obtain ⟨b', hb, hk⟩ := (h.2 A (hp.has hs)).1 i hi
 obtain rfl := Option.some.inj hb
 obtain ⟨y, A', h1, h2⟩ := H
 exact ⟨y, A', (load_run (x := x) (by rw [hk]; exact hx)).trans h1, h2⟩
def AllAt {α : Type} (R : List Value → α → Prop) (esz : Nat) (L : List Value) (xs : List α) : Prop := L.length = xs.length * esz ∧ ∀ (i : Nat) (hi : i < xs.length), R ((L.drop (i * esz)).take esz) (xs[i]'hi)
section
variable {α : Type} {R S : List Value → α → Prop} {esz : Nat} {L L' c : List Value} {xs ys : List α} {x : α}
theorem AllAt.nil : AllAt R esz [] ([] : List α) := ⟨by simp, fun _ h => absurd h (Nat.not_lt_zero _)⟩
theorem AllAt.mono (h : AllAt R esz L xs) (k : ∀ c x, R c x → S c x) : AllAt S esz L xs := ⟨h.1, fun i hi => k _ _ (h.2 i hi)⟩
theorem AllAt.append (h : AllAt R esz L xs) (k : AllAt R esz L' ys) : AllAt R esz (L ++ L') (xs ++ ys) := by
 refine ⟨by rw [List.length_append, List.length_append, h.1, k.1, Nat.add_mul], fun i hi => ?_⟩
 by_cases hx : i < xs.length
 ·rw [List.getElem_append_left hx, List.drop_append, List.take_append]
  have e1 := mul_le_of_lt (k := esz) hx
  have e2 := h.1
  rw [show esz - (L.drop (i * esz)).length = 0 by rw [List.length_drop]; omega, List.take_zero, List.append_nil]
  exact h.2 i hx
 ·have e2 := h.1
  rw [List.length_append] at hi
  rw [List.getElem_append_right (by omega), List.drop_append, List.drop_of_length_le (by rw [e2]; exact Nat.mul_le_mul_right _ (by omega)), List.nil_append]
  have e3 : i * esz - L.length = (i - xs.length) * esz := by rw [e2, Nat.sub_mul]
  rw [e3]
  exact k.2 _ (by omega)
theorem AllAt.one (hc : c.length = esz) (h : R c x) : AllAt R esz c [x] := by
 refine ⟨by simp [hc], fun i hi => ?_⟩
 have : i = 0 := by simpa using hi
 subst this
 rw [Nat.zero_mul, List.drop_zero, List.take_of_length_le (by omega)]
 exact h
theorem AllAt.snoc (h : AllAt R esz L xs) (hc : c.length = esz) (k : R c x) : AllAt R esz (L ++ c) (xs ++ [x]) := h.append (.one hc k)
end
end
end Go.Eng
