/-
 The engine, part 12: what a function of the program comes to over an abstract heap; each part is proved against the model.
-/
import Derived.Test.YtlcigkdflbfdgaaGreatDoorEng11
import Derived.Laws.BytesString
namespace Go.Eng
open Go
variable {P : Program} {φ : Phi} {A : AW} {ρ : Type} {r : Res ρ} {w : World}
theorem prj_eq {s : Sh} {v : Value} {y : s.T} (h : s.prj v = some y) : s.inj y = v := Sh.inj_prj h
theorem aTypeAssert_sound {v u : Value} {xt asserted : TypeId} {ok : Bool} {K : Value → M ρ} (h : aTypeAssert P v asserted ok K A = r) (hr : r ≠ .stuck) (hv : VR φ v u) :
  Pure P φ A r K (Instr.typeAssert u xt asserted ok) := by
 unfold aTypeAssert at h
 cases hu : P.underlying asserted with
 | none => rw [hu] at h; exact stuck_ok (A := A) h hr
 | some d =>
  rw [hu] at h
  have key : (match zeroT P asserted with
   | some z => (match v with
    | .nilIface => cond (ok && plain z) (K (.tuple #[z, .bool false])) M.stuck
    | .iface t x => M.ite (Nat.beq t asserted) (M.need ((shT P asserted).prj x) fun y => K (cond ok (.tuple #[(shT P asserted).inj y, .bool true]) ((shT P asserted).inj y)))
      (cond (ok && plain z) (K (.tuple #[z, .bool false])) M.stuck)
    | _ => M.stuck)
   | none => M.stuck) A = r → (∀ ms, d ≠ .interface ms) → Pure P φ A r K (Instr.typeAssert u xt asserted ok) := by
   clear h
   intro h hd
   cases hz : zeroT P asserted with
   | none => rw [hz] at h; exact stuck_ok (A := A) h hr
   | some z =>
    rw [hz] at h
    have hfail : ok = true → plain z = true → VR φ (.tuple #[z, .bool false]) (.tuple #[z, .bool false]) := fun _ hp => by
     have hrs : Rs φ [z, .bool false] [z, .bool false] := Rs.cons (plain_VR φ hp) (Rs.cons (.bool _) Rs.nil)
     exact .tuple hrs.1 hrs.2
    cases hv with
    | nilIface =>
     simp only at h
     obtain ⟨hb, h9⟩ := condM_ok h hr
     clear h
     simp only [Bool.and_eq_true] at hb
     obtain ⟨rfl, hp⟩ := hb
     refine ⟨_, _, h9.symm, fun w => ?_, hfail rfl hp⟩
     cases d <;> first | (exact absurd rfl (hd _)) | simp [Instr.typeAssert, run_und hu, run_zero hz]
    | @iface t x y hxy =>
     simp only at h
     unfold M.ite at h
     cases hb : Nat.beq t asserted with
     | true =>
      rw [hb] at h
      obtain rfl := Nat.eq_of_beq_eq_true hb
      simp only [cond_true] at h
      obtain ⟨q, hq, h⟩ := need_ok h hr
      rw [prj_eq hq] at h
      cases ok with
      | true =>
       have hrs : Rs φ [x, .bool true] [y, .bool true] := Rs.cons hxy (Rs.cons (.bool _) Rs.nil)
       refine ⟨_, .tuple #[y, .bool true], h.symm, fun w => ?_, .tuple hrs.1 hrs.2⟩
       cases d <;> first | (exact absurd rfl (hd _)) | simp [Instr.typeAssert, run_und hu]
      | false =>
       refine ⟨_, y, h.symm, fun w => ?_, hxy⟩
       cases d <;> first | (exact absurd rfl (hd _)) | simp [Instr.typeAssert, run_und hu]
     | false =>
      rw [hb] at h
      simp only [cond_false] at h
      obtain ⟨hb', h9⟩ := condM_ok h hr
      clear h
      simp only [Bool.and_eq_true] at hb'
      obtain ⟨rfl, hp⟩ := hb'
      have hne : ¬ t = asserted := fun e => by subst e; simp at hb
      refine ⟨_, _, h9.symm, fun w => ?_, hfail rfl hp⟩
      cases d <;> first | (exact absurd rfl (hd _)) | simp [Instr.typeAssert, run_und hu, hne, run_zero hz]
    | _ => exact stuck_ok (A := A) h hr
  cases d <;> first | (exact stuck_ok (A := A) h hr) | exact key h (by intro _ e; cases e)
theorem aLen_sound {t ty : TypeId} {v u : Value} {argTypes : Array TypeId} {K : Value → M ρ} (h : aLen P t v K A = r) (hr : r ≠ .stuck) (hs : Sim P φ A w) (h0 : argTypes[0]? = some t) (hv : VR φ v u) :
  ∃ v v', r = K v A ∧ (Builtin.len_ argTypes ty #[u]).run P w = .ok v' w ∧ VR φ v v' := by
 unfold aLen at h
 have b0 : (#[u] : Array Value)[0]? = some u := rfl
 cases hu : P.underlying t with
 | none => rw [hu] at h; exact stuck_ok (A := A) h hr
 | some d =>
  rw [hu] at h
  cases d with
  | string =>
   cases hv with
   | string s => exact ⟨_, _, h.symm, by simp [Builtin.len_, h0, run_und hu]; rfl, .int _ _⟩
   | _ => exact stuck_ok (A := A) h hr
  | array n e => exact ⟨_, _, h.symm, by simp [Builtin.len_, h0, run_und hu]; rfl, .int _ _⟩
  | pointer arr =>
   simp only at h
   cases hu2 : P.underlying arr with
   | none => rw [hu2] at h; exact stuck_ok (A := A) h hr
   | some d2 =>
    rw [hu2] at h
    cases d2 with
    | array n e => exact ⟨_, _, h.symm, by simp [Builtin.len_, h0, run_und hu, run_und hu2]; rfl, .int _ _⟩
    | _ => exact stuck_ok (A := A) h hr
  | slice e =>
   cases hv with
   | nilSlice _ => exact ⟨_, _, h.symm, by simp [Builtin.len_, h0, run_und hu]; rfl, .int _ _⟩
   | slice _ _ => exact ⟨_, _, h.symm, by simp [Builtin.len_, h0, run_und hu]; rfl, .int _ _⟩
   | _ => exact stuck_ok (A := A) h hr
  | map k e =>
   cases hv with
   | nilMap => exact ⟨_, _, h.symm, by simp [Builtin.len_, h0, run_und hu]; rfl, .int _ _⟩
   | @map m c hc =>
    simp only [AW.entries] at h
    cases hg : A.get m with
    | none => rw [hg] at h; exact absurd h.symm hr
    | some o =>
     rw [hg] at h
     cases o with
     | map es clock =>
      obtain ⟨x, hx, hx2⟩ := hc
      obtain ⟨d', ex, o', rfl, hw, fs, rfl, hfs⟩ := hs.live hg hx
      obtain rfl := hx2 d' ex rfl
      refine ⟨_, goInt fs.size, h.symm, ?_, ?_⟩
      ·simp [Builtin.len_, h0, run_und hu, getObj, Sem.run, hw]
      ·have : es.length = fs.size := by simpa using hfs.1
       rw [this]; exact .int _ _
     | _ => exact absurd h.symm hr
   | _ => exact stuck_ok (A := A) h hr
  | _ => exact stuck_ok (A := A) h hr
theorem bytesOf_Rs {φ : Phi} : ∀ {vs us : List Value} {l : List UInt8}, bytesOfCells vs = some l → Rs φ vs us → ∃ ns : List Int, us = ns.map (Value.int .u8) ∧ l = ns.map fun n => UInt8.ofNat n.toNat
 | [], us, l, h, hr => by
  obtain rfl := hr.nil_inv
  simp only [bytesOfCells, Option.some.injEq] at h
  subst h
  exact ⟨[], rfl, rfl⟩
 | v :: vs, us, l, h, hr => by
  obtain ⟨y, k, rfl, hv, hk⟩ := hr.cons_inv
  cases hv with
  | int kd n =>
   cases kd <;> first | (simp [bytesOfCells] at h; done) | skip
   simp only [bytesOfCells] at h
   obtain ⟨l', hl', rfl⟩ := Option.map_eq_some_iff.1 h
   obtain ⟨ns, rfl, rfl⟩ := bytesOf_Rs hl' hk
   exact ⟨n :: ns, rfl, rfl⟩
  | _ => simp [bytesOfCells] at h
theorem foldl_push (ns : List Int) : ∀ s : ByteArray, (ns.foldl (fun r n => r.push (UInt8.ofNat n.toNat)) s).data.toList = s.data.toList ++ ns.map fun n => UInt8.ofNat n.toNat := by
 induction ns with
 | nil => intro s; simp
 | cons n ns ih => intro s; simp only [List.foldl_cons, ih, List.map_cons]; simp [ByteArray.push]
theorem foldl_push_empty (ns : List Int) : ns.foldl (fun r n => r.push (UInt8.ofNat n.toNat)) ByteArray.empty = ⟨⟨ns.map fun n => UInt8.ofNat n.toNat⟩⟩ := by
 apply bytes_ext
 rw [foldl_push]
 rfl
theorem toStr_sound {a : Option Addr} {n c : Nat} {u : Value} {K : Value → M ρ} (h : M.toStr a n (fun s => K (.string s)) A = r) (hr : r ≠ .stuck) (hs : Sim P φ A w) (hv : VR φ (.slice a n c) u) :
  ∃ v v', r = K v A ∧ (Conv.bytesToString u).run P w = .ok v' w ∧ VR φ v v' := by
 unfold M.toStr at h
 cases hv with
 | nilSlice _ => exact ⟨_, _, h.symm, rfl, .string _⟩
 | @slice a c' _ _ cap' hsr =>
  simp only at h
  cases hb : (A.peek a n).bind bytesOfCells with
  | none => rw [hb] at h; exact absurd h.symm hr
  | some l =>
   rw [hb] at h
   obtain ⟨vs, hvs, hl⟩ := Option.bind_eq_some_iff.1 hb
   obtain ⟨us, q1, q2⟩ := elems_sound (P := P) hs (x := .slice (some a) n c) (esz := 1) (n := n) (.slice n hsr) (by simpa [AW.elems] using hvs) rfl (Nat.le_refl _)
   have q1 := q1 w rfl
   simp only [Builtin.firstCells, Nat.mul_one] at q1
   obtain ⟨ns, rfl, rfl⟩ := bytesOf_Rs hl q2
   refine ⟨_, _, h.symm, run_bytesToString w c' n cap' ns (by simpa using q1), ?_⟩
   rw [foldl_push_empty]
   exact .string _
theorem Sim.congrA (h : Sim P φ A w) {A' : AW} (hg : ∀ b, A'.get b = A.get b) (hn : A'.next = A.next) : Sim P φ A' w :=
 ⟨fun b c ex hb => by rw [hg]; exact h.obj b c ex hb, h.inj, fun b hb => by rw [hn]; exact h.bound b hb, fun b hb => by rw [hg]; exact h.dead b hb, fun b hb => by rw [hg]; exact h.fresh b (by rw [hn] at hb; exact hb)⟩
theorem Onw.congrA {φ' : Phi} {A1 A2 : AW} {w' : World} (h : Onw φ A w φ' A1 w') (hg : ∀ b, A2.get b = A1.get b) (hn : A2.next = A1.next) : Onw φ A w φ' A2 w' :=
 ⟨h.le, h.size, by rw [hn]; exact h.next, h.conc, h.range, fun b hb hx => by rw [hg]; exact h.virt b hb hx, h.out⟩
theorem Sim.keep (h : Sim P φ A w) {w' : World} {o : AObj} {o' : Obj} {b c ex : Nat} (hb : φ b = some (some (c, ex))) (hg : A.get b = some o) (hs : Sz w w')
  (he : ∀ d, d ≠ c → w'.heap[d]? = w.heap[d]?) (hc : w'.heap[c]? = some o') (ho : ObjR P φ ex o o') : Sim P φ A w' ∧ Onw φ A w φ A w' := by
 obtain ⟨h1, h2⟩ := h.put hb hs he hc ho
 have hget : ∀ x, A.get x = (A.put b o).get x := fun x => by
  simp only [AW.get_put]
  split
  ·rename_i e; rw [e, hg]
  ·rfl
 exact ⟨h1.congrA hget rfl, h2.congrA hget rfl⟩
def frz (fz : Nat × Nat) (o n : Nat) : Nat × Nat := if (fz.1 == fz.2) = true then (o, o + n) else (min fz.1 o, max fz.2 (o + n))
theorem run_freeze_at {c : Addr} {n : Nat} {arr : Array Value} {e : TypeId} {fz : Nat × Nat} (hn : n ≠ 0) (hc : w.heap[c.block]? = some (.cells arr e fz)) :
  ∃ w', (freeze c n).run P w = .ok () w' ∧ Sz w w' ∧ (∀ d, d ≠ c.block → w'.heap[d]? = w.heap[d]?) ∧ w'.heap[c.block]? = some (.cells arr e (frz fz c.off n)) := by
 obtain ⟨lo, hi⟩ := fz
 refine ⟨w.freeze c n, rfl, ?_, fun d hd => ?_, ?_⟩
 ·simp [World.freeze, hn]; exact ⟨by simp, rfl, rfl, rfl⟩
 ·simp [World.freeze, hn, Array.getElem?_modify, Ne.symm hd]
 ·simp [World.freeze, hn, Array.getElem?_modify, hc, frz]
theorem run_markStringish {c : Addr} {arr : Array Value} {e : TypeId} {fz : Nat × Nat} (hc : w.heap[c.block]? = some (.cells arr e fz)) :
  ∃ w', (markStringish c).run P w = .ok () w' ∧ Sz w w' ∧ (∀ d, d ≠ c.block → w'.heap[d]? = w.heap[d]?) ∧ w'.heap[c.block]? = some (.cells arr e (frz fz arr.size 1)) := by
 have hs : w.shape? c.block = some (e, arr.size) := by simp [World.shape?, hc]
 obtain ⟨w', h1, h2, h3, h4⟩ := run_freeze_at (P := P) (c := ⟨c.block, arr.size, none⟩) (n := 1) (by decide) hc
 exact ⟨w', by simp only [markStringish, Sem.run_bind, run_shape, hs, Result.andThen_ok]; exact h1, h2, h3, h4⟩
theorem FzR.mark {fz fz' : Nat × Nat} {ish : Bool} {n : Nat} (h : FzR fz ish fz' n) (he : fz.1 = fz.2) : FzR fz true (frz fz' n 1) n := by
 obtain ⟨h1, h2, h3, h4⟩ := h
 have h2 := h2 he
 refine ⟨fun hne => absurd he hne, fun _ i hi => ?_, (fun e => by cases e), ?_⟩
 ·unfold frz
  split
  ·omega
  ·rename_i hne
   have hne : fz'.1 ≠ fz'.2 := by simpa using hne
   have : n ≤ fz'.1 := by
    by_cases hlt : fz'.1 < n
    ·have := h2 fz'.1 hlt; omega
    ·omega
   have : n ≤ min fz'.1 n := by omega
   omega
 ·unfold frz
  split
  ·omega
  ·simp only; omega
theorem ofStr_sound {e : TypeId} {s : ByteArray} {K : Value → M ρ} (h : M.ofStr e s (fun a n c => K (.slice a n c)) A = r) (hs : Sim P φ A w) (hn : sizeT P e = some 1) :
  DoesV P φ A w r K (Conv.stringToBytes e s) := by
 unfold M.ofStr at h
 obtain ⟨k, w1, hk, hw1, hso⟩ := run_choose_append (P := P) (w := w) s.size 0 e
 have hs1 := hs.heap hw1
 obtain ⟨arr, harr⟩ : ∃ arr : Array Value, arr = s.data.map (fun b => Value.int .u8 b.toNat) ++ Array.replicate (s.size + k - s.size) (.int .u8 0) := ⟨_, rfl⟩
 obtain ⟨w2, hw2⟩ : ∃ w2 : World, w2 = { w1 with heap := w1.heap.push (.cells arr e (0, 0)) } := ⟨_, rfl⟩
 have e2 : w2.heap = w1.heap.push (.cells arr e (0, 0)) := by rw [hw2]
 have hlen : (Row.ofList (s.data.toList.map fun b => Value.int .u8 b.toNat)).list.length = s.size := by rw [Row.ofList_list]; simp
 have hasz : arr.size = s.size + k := by rw [harr]; simp
 have hobj : ObjR P φ k (.cells (Row.ofList (s.data.toList.map fun b => Value.int .u8 b.toNat)) e true (0, 0) true) (.cells arr e (0, 0)) := by
  refine ⟨arr, (0, 0), rfl, by rw [hlen, hn, hasz]; simp, ?_, (fun e => by cases e), by simp, by intro _ i _; omega, (fun e => by cases e), Nat.le_refl _⟩
  rw [hlen, Row.ofList_list]
  have : arr.toList.take s.size = s.data.toList.map fun b => Value.int .u8 b.toNat := by
   rw [harr, Array.toList_append, Array.toList_map, List.take_left' (by simp)]
  rw [this]
  exact strCells_Rs φ _
 obtain ⟨s1, s2⟩ := hs1.alloc e2 hobj (by rw [hw2]; exact ⟨rfl, rfl, rfl⟩)
 have hsz : w1.heap.size = w.heap.size := by rw [hw1]
 have hlast : w2.heap[w1.heap.size]? = some (.cells arr e (0, 0)) := by rw [e2]; simp
 obtain ⟨w3, m1, m2, m3, m4⟩ := run_markStringish (P := P) (c := ⟨w1.heap.size, 0, none⟩) hlast
 have hfz : FzR (0, 0) true (frz (0, 0) arr.size 1) arr.size := FzR.mark (fz := (0, 0)) (ish := true) ⟨by simp, by intro _ i _; omega, (fun e => by cases e), Nat.le_refl _⟩ rfl
 obtain ⟨_, f0, g1, g2, g3, g4, g5⟩ := hobj
 cases g1
 obtain ⟨t1, t2⟩ := s1.keep (o := .cells (Row.ofList (s.data.toList.map fun b => Value.int .u8 b.toNat)) e true (0, 0) true) (setPhi_same _ _ _) (by simp) m2 m3 m4 ⟨arr, _, rfl, g2, g3.mono (le_new _ hs1.unused), g4, hfz⟩
 refine ⟨_, _, _, w3, .slice (some ⟨w1.heap.size, 0, none⟩) s.size (s.size + k), h.symm, ?_, t1, .slice _ (SR.new (setPhi_same _ _ _) (Nat.le_refl _) rfl), (s2.trans t2).heap hw1.symm rfl hso (SameOut.refl _)⟩
 simp only [Conv.stringToBytes, Sem.run_bind, hk, Result.andThen_ok, newRow, run_newObj, Sem.run_pure, ← harr]
 rw [show World.mk (w1.heap.push (.cells arr e (0, 0))) w1.tape w1.drawn w1.os w1.output = w2 from hw2.symm, m1]
 rfl
theorem pos_some {o : Option Nat} (h : pos o = true) : ∃ n, o = some (n + 1) := by
 unfold pos at h
 split at h
 ·exact ⟨_, rfl⟩
 ·cases h
theorem run_seenAt {c : Addr} {arr : Array Value} {e : TypeId} {fz : Nat × Nat} (hc : w.heap[c.block]? = some (.cells arr e fz)) : (Conv.seenAt c).run P w = .ok c w := by
 have hs : w.shape? c.block = some (e, arr.size) := by simp [World.shape?, hc]
 have hv : (viewAt c.block).run P w = .ok none w := by simp [viewAt, hs]
 simp [Conv.seenAt, hv]
theorem aConvert_sound {src dst : TypeId} {v u : Value} {K : Value → M ρ} (h : aConvert P src dst v K A = r) (hr : r ≠ .stuck) (hs : Sim P φ A w) (hv : VR φ v u) :
  DoesV P φ A w r K (convert src dst u) := by
 have same : ∀ {v v' : Value}, r = K v A → (convert src dst u).run P w = .ok v' w → VR φ v v' → DoesV P φ A w r K (convert src dst u) := fun h1 h2 h3 => ⟨_, A, φ, w, _, h1, h2, hs, h3, Onw.refl _ _ _⟩
 rw [aConvert_eq] at h
 unfold aConvert0 at h
 cases h1 : P.underlying src with
 | none => rw [h1] at h; exact stuck_ok (A := A) h hr
 | some d1 =>
  cases h2 : P.underlying dst with
  | none => rw [h1, h2] at h; exact stuck_ok (A := A) (by cases d1 <;> exact h) hr
  | some d2 =>
   rw [h1, h2] at h
   cases d2 with
   | int k =>
    have h : (match v with
     | .int _ n => K (.int k (k.wrap n))
     | _ => M.stuck) A = r := by cases d1 <;> exact h
    cases hv with
    | int k' n => exact same h.symm (by cases d1 <;> simp [convert, run_und h1, run_und h2, Conv.intToInt]) (.int _ _)
    | _ => exact stuck_ok (A := A) h hr
   | string =>
    by_cases hsl : ∃ e, d1 = .slice e
    ·obtain ⟨e, rfl⟩ := hsl
     simp only at h
     cases h3 : P.underlying e with
     | none => rw [h3] at h; exact stuck_ok (A := A) h hr
     | some d3 =>
      rw [h3] at h
      by_cases hb : d3 = .int .u8
      ·subst hb
       simp only at h
       have hrun : ∀ a n c, u = .slice a n c → (convert src dst u).run P w = (Conv.bytesToString u).run P w := by
        rintro a n c rfl
        exact run_convert_bytes_string w src dst e a n c h1 h3 h2
       cases hv with
       | nilSlice hnc =>
        obtain ⟨q, q', e1, e2, e3⟩ := toStr_sound h hr hs (.nilSlice hnc)
        exact same e1 ((hrun _ _ _ rfl).trans e2) e3
       | slice n hsr =>
        obtain ⟨q, q', e1, e2, e3⟩ := toStr_sound h hr hs (.slice n hsr)
        exact same e1 ((hrun _ _ _ rfl).trans e2) e3
       | _ => exact stuck_ok (A := A) h hr
      ·refine stuck_ok (A := A) (r := r) (ρ := ρ) ?_ hr
       cases d3 with
       | int k => cases k <;> first | exact absurd rfl hb | exact h
       | _ => exact h
    ·have h : (match v with
      | .int _ n => K (.string (Utf8.encode n))
      | .string s => K (.string s)
      | _ => M.stuck) A = r := by cases d1 <;> first | exact absurd ⟨_, rfl⟩ hsl | exact h
     cases hv with
     | int k' n => exact same h.symm (by cases d1 <;> first | exact absurd ⟨_, rfl⟩ hsl | simp [convert, run_und h1, run_und h2, Conv.intToString]) (.string _)
     | string s => exact same h.symm (by cases d1 <;> first | exact absurd ⟨_, rfl⟩ hsl | simp [convert, run_und h1, run_und h2]) (.string _)
     | _ => exact stuck_ok (A := A) h hr
   | slice e =>
    cases d1 with
    | string =>
     simp only at h
     cases h3 : P.underlying e with
     | none => rw [h3] at h; exact stuck_ok (A := A) h hr
     | some d3 =>
      rw [h3] at h
      by_cases hb : d3 = .int .u8
      ·subst hb
       simp only at h
       cases hv with
       | string s =>
        simp only at h
        obtain ⟨h1', h⟩ := condM_ok h hr
        obtain ⟨q, A', φ', w', q', e1, e2, e3⟩ := ofStr_sound h hs (isOne_eq h1')
        exact ⟨q, A', φ', w', q', e1, by simp only [convert, Sem.run_bind, run_und h1, run_und h2, run_und h3, Result.andThen_ok, e2], e3⟩
       | _ => exact stuck_ok (A := A) h hr
      ·refine stuck_ok (A := A) (r := r) (ρ := ρ) ?_ hr
       cases d3 with
       | int k => cases k <;> first | exact absurd rfl hb | exact h
       | _ => exact h
    | slice e' =>
     simp only at h
     cases h3 : P.underlying e with
     | none => rw [h3] at h; exact stuck_ok (A := A) h hr
     | some d3 =>
      rw [h3] at h
      by_cases hb : d3 = .int .u8
      ·subst hb
       cases hv with
       | @slice a c n cap cap' hsr =>
        simp only at h
        obtain ⟨hsd, h9⟩ := condM_ok h hr
        clear h
        simp only [Bool.and_eq_true, ble_iff] at hsd
        obtain ⟨hsd, hcap⟩ := hsd
        obtain rfl := Nat.eq_of_beq_eq_true hsd
        have h := h9
        clear h9
        unfold M.mark at h
        obtain rfl : e' = e := by rw [h1] at h2; cases h2; rfl
        cases hg : A.get a.block with
        | none => rw [hg] at h; exact absurd h.symm hr
        | some o =>
         rw [hg] at h
         cases o with
         | cells cs e' g fz ish =>
          simp only at h
          cases hfz : Nat.beq fz.1 fz.2 with
          | false => rw [hfz] at h; exact absurd h.symm hr
          | true =>
           rw [hfz] at h
           have hfz := Nat.eq_of_beq_eq_true hfz
           simp only [cond_true] at h
           obtain ⟨ex, o', hφ, ho, hsp, hc, arr, fz', rfl, hsz, hrs, hgx, hfr⟩ := hs.liveA (hsr.ar (by omega)) hg
           obtain ⟨w', m1, m2, m3, m4⟩ := run_markStringish (P := P) hc
           obtain ⟨t1, t2⟩ := hs.put (o := .cells cs e' g fz true) hφ m2 m3 m4 ⟨arr, _, rfl, hsz, hrs, hgx, hfr.mark hfz⟩
           refine ⟨_, _, φ, w', _, h.symm, ?_, t1, .slice n hsr, t2⟩
           simp only [convert, Sem.run_bind, run_und h1, run_und h3, Result.andThen_ok, beq_self_eq_true, m1, Sem.run_pure]
         | _ => exact absurd h.symm hr
       | _ => exact stuck_ok (A := A) h hr
      ·refine stuck_ok (A := A) (r := r) (ρ := ρ) ?_ hr
       cases d3 with
       | int k => cases k <;> first | exact absurd rfl hb | exact h
       | _ => exact h
    | _ => exact stuck_ok (A := A) h hr
   | unsafePointer =>
    cases d1 with
    | pointer t =>
     simp only at h
     cases hv with
     | nilPtr => exact same h.symm (by simp [convert, run_und h1, run_und h2, Conv.unsafePointer]) .nilPtr
     | @ptr a c hac =>
      simp only at h
      cases hg : A.get a.block with
      | none => rw [hg] at h; exact absurd h.symm hr
      | some o =>
       rw [hg] at h
       cases o with
       | cells cs e' g fz ish =>
        simp only at h
        cases hb : (a.spot.isNone && Nat.ble (a.off + 1) cs.n && pos (sizeT P t)) with
        | false => rw [hb] at h; exact absurd h.symm hr
        | true =>
         rw [hb] at h
         simp only [Bool.and_eq_true, ble_iff] at hb
         obtain ⟨⟨hb1, hb2⟩, hb3⟩ := hb
         obtain ⟨n, hn⟩ := pos_some hb3
         obtain ⟨ex, o', hφ, ho, hsp, hc, arr, fz', rfl, hsz, hrs, _⟩ := hs.liveA hac hg
         have hshape : w.shape? c.block = some (e', arr.size) := by simp [World.shape?, hc]
         have hci : (cellsIn c.block).run P w = .ok (some arr.size) w := by simp [cellsIn, hshape]
         have hlt : ¬ (arr.size ≤ c.off) := by rw [Row.list_length] at hsz; omega
         refine same h.symm ?_ (.ptr hac)
         simp [convert, run_und h1, run_und h2, Conv.unsafePointer, run_seenAt hc, hci, run_size hn, hlt]
       | _ => exact absurd h.symm hr
     | _ => exact stuck_ok (A := A) h hr
    | _ => exact stuck_ok (A := A) h hr
   | pointer t =>
    cases d1 with
    | unsafePointer =>
     simp only at h
     cases hv with
     | nilPtr => exact same h.symm (by simp [convert, run_und h1, run_und h2, Conv.unsafePointer]) .nilPtr
     | @ptr a c hac =>
      simp only at h
      cases hg : A.get a.block with
      | none => rw [hg] at h; exact absurd h.symm hr
      | some o =>
       rw [hg] at h
       cases o with
       | cells cs e' g fz ish =>
        simp only at h
        cases hb : (!g && pos (sizeT P t) && liesAt P P.depth e' (cs.n / P.cellsOf e') a.off t 1) with
        | false => rw [hb] at h; exact absurd h.symm hr
        | true =>
         rw [hb] at h
         simp only [Bool.and_eq_true, Bool.not_eq_true'] at hb
         obtain ⟨⟨rfl, hb2⟩, hb3⟩ := hb
         obtain ⟨n, hn⟩ := pos_some hb2
         obtain ⟨ex, o', hφ, ho, hsp, hc, arr, fz', rfl, hsz, hrs, hgx, _⟩ := hs.liveA hac hg
         have hex := hgx rfl
         have hal : arr.size = cs.n := by rw [hsz, hex]; simp
         have hshape : w.shape? c.block = some (e', arr.size) := by simp [World.shape?, hc]
         have hva : (variablesAt c t 1).run P w = .ok true w := by
          simp [variablesAt, hshape, hal, ← ho, hb3]
         refine same h.symm ?_ (.ptr hac)
         simp [convert, run_und h1, run_und h2, Conv.unsafePointer, run_seenAt hc, hva, run_size hn]
       | _ => exact absurd h.symm hr
     | _ => exact stuck_ok (A := A) h hr
    | _ => exact stuck_ok (A := A) h hr
   | _ => exact stuck_ok (A := A) (by cases d1 <;> exact h) hr
end Go.Eng
