/-
  The engine, part 29: what a function of the program comes to over an abstract heap; each part is proved against the model.
-/
import Derived.Test.YtlcigkdflbfdgaaDoorEng28
namespace Go.Eng
open Go Go.RowKit
def expL : List Nat := [1, 2, 4, 8, 16, 32, 64, 128, 29, 58, 116, 232, 205, 135, 19, 38, 76, 152, 45, 90, 180, 117, 234, 201, 143, 3, 6, 12, 24, 48, 96, 192, 157, 39, 78, 156, 37, 74, 148, 53, 106, 212, 181, 119, 238, 193, 159, 35, 70, 140, 5, 10, 20, 40, 80, 160, 93, 186, 105, 210, 185, 111, 222, 161, 95, 190, 97, 194, 153, 47, 94, 188, 101, 202, 137, 15, 30, 60, 120, 240, 253, 231, 211, 187, 107, 214, 177, 127, 254, 225, 223, 163, 91, 182, 113, 226, 217, 175, 67, 134, 17, 34, 68, 136, 13, 26, 52, 104, 208, 189, 103, 206, 129, 31, 62, 124, 248, 237, 199, 147, 59, 118, 236, 197, 151, 51, 102, 204, 133, 23, 46, 92, 184, 109, 218, 169, 79, 158, 33, 66, 132, 21, 42, 84, 168, 77, 154, 41, 82, 164, 85, 170, 73, 146, 57, 114, 228, 213, 183, 115, 230, 209, 191, 99, 198, 145, 63, 126, 252, 229, 215, 179, 123, 246, 241, 255, 227, 219, 171, 75, 150, 49, 98, 196, 149, 55, 110, 220, 165, 87, 174, 65, 130, 25, 50, 100, 200, 141, 7, 14, 28, 56, 112, 224, 221, 167, 83, 166, 81, 162, 89, 178, 121, 242, 249, 239, 195, 155, 43, 86, 172, 69, 138, 9, 18, 36, 72, 144, 61, 122, 244, 245, 247, 243, 251, 235, 203, 139, 11, 22, 44, 88, 176, 125, 250, 233, 207, 131, 27, 54, 108, 216, 173, 71, 142]
def logL : List Nat := [0, 0, 1, 25, 2, 50, 26, 198, 3, 223, 51, 238, 27, 104, 199, 75, 4, 100, 224, 14, 52, 141, 239, 129, 28, 193, 105, 248, 200, 8, 76, 113, 5, 138, 101, 47, 225, 36, 15, 33, 53, 147, 142, 218, 240, 18, 130, 69, 29, 181, 194, 125, 106, 39, 249, 185, 201, 154, 9, 120, 77, 228, 114, 166, 6, 191, 139, 98, 102, 221, 48, 253, 226, 152, 37, 179, 16, 145, 34, 136, 54, 208, 148, 206, 143, 150, 219, 189, 241, 210, 19, 92, 131, 56, 70, 64, 30, 66, 182, 163, 195, 72, 126, 110, 107, 58, 40, 84, 250, 133, 186, 61, 202, 94, 155, 159, 10, 21, 121, 43, 78, 212, 229, 172, 115, 243, 167, 87, 7, 112, 192, 247, 140, 128, 99, 13, 103, 74, 222, 237, 49, 197, 254, 24, 227, 165, 153, 119, 38, 184, 180, 124, 17, 68, 146, 217, 35, 32, 137, 46, 55, 63, 209, 91, 149, 188, 207, 205, 144, 135, 151, 178, 220, 252, 190, 97, 242, 86, 211, 171, 20, 42, 93, 158, 132, 60, 57, 83, 71, 109, 65, 162, 31, 45, 67, 216, 183, 123, 164, 118, 196, 23, 73, 236, 127, 12, 111, 246, 108, 161, 59, 82, 41, 157, 85, 170, 251, 96, 134, 177, 187, 204, 62, 90, 203, 89, 95, 176, 156, 169, 160, 81, 11, 245, 22, 235, 122, 117, 44, 215, 79, 174, 213, 233, 230, 231, 173, 232, 116, 214, 244, 234, 168, 80, 88, 175]
def invL : List Nat := [0, 1, 142, 244, 71, 167, 122, 186, 173, 157, 221, 152, 61, 170, 93, 150, 216, 114, 192, 88, 224, 62, 76, 102, 144, 222, 85, 128, 160, 131, 75, 42, 108, 237, 57, 81, 96, 86, 44, 138, 112, 208, 31, 74, 38, 139, 51, 110, 72, 137, 111, 46, 164, 195, 64, 94, 80, 34, 207, 169, 171, 12, 21, 225, 54, 95, 248, 213, 146, 78, 166, 4, 48, 136, 43, 30, 22, 103, 69, 147, 56, 35, 104, 140, 129, 26, 37, 97, 19, 193, 203, 99, 151, 14, 55, 65, 36, 87, 202, 91, 185, 196, 23, 77, 82, 141, 239, 179, 32, 236, 47, 50, 40, 209, 17, 217, 233, 251, 218, 121, 219, 119, 6, 187, 132, 205, 254, 252, 27, 84, 161, 29, 124, 204, 228, 176, 73, 49, 39, 45, 83, 105, 2, 245, 24, 223, 68, 79, 155, 188, 15, 92, 11, 220, 189, 148, 172, 9, 199, 162, 28, 130, 159, 198, 52, 194, 70, 5, 206, 59, 13, 60, 156, 8, 190, 183, 135, 229, 238, 107, 235, 242, 191, 175, 197, 100, 7, 123, 149, 154, 174, 182, 18, 89, 165, 53, 101, 184, 163, 158, 210, 247, 98, 90, 133, 125, 168, 58, 41, 113, 200, 246, 249, 67, 215, 214, 16, 115, 118, 120, 153, 10, 25, 145, 20, 63, 230, 240, 134, 177, 226, 241, 250, 116, 243, 180, 109, 33, 178, 106, 227, 231, 181, 234, 3, 143, 211, 201, 66, 212, 232, 117, 127, 255, 126, 253]
def expVs : List Value := expL.map fun n => .int .u8 (n : Nat)
def logVs : List Value := logL.map fun n => .int .i64 (n : Nat)
def tabV : Value := .tuple ⟨[.agg ⟨expVs⟩, .agg ⟨logVs⟩]⟩
noncomputable section
def logText (tb t1 t2 : Nat) (z1 z2 : List Value) (X : Task → M Value) (_L : LoopI) (x : Int × Unit) : M Value :=
  M.ite (x.1 == 0)
  (M.pure (.tuple ⟨[(.int .i64 0), (.int .i64 1)]⟩))
  (M.callS (.tuple [.raw, .raw]) (X (.call tb [])) fun (r1_ : List Value × List Value × Unit) =>
    M.new (.cells (Row.ofList z1) t1 false (0, 0) false) fun b2_ =>
    M.new (.cells (Row.ofList z2) t2 false (0, 0) false) fun b3_ =>
    cond (Nat.beq r1_.1.length 255) (M.store (Addr.mk b2_ 0 none) r1_.1
    (cond (Nat.beq r1_.2.1.length 256) (M.store (Addr.mk b3_ 0 none) r1_.2.1
    (M.guard (decide (0 ≤ x.1) && decide (x.1 < ((256 : Nat) : Int)))
    (M.load (.cell (.int .i64)) 1 ((Addr.mk b3_ 0 none).add ((Int.toNat x.1) * 1)) fun (x4_ : Int) =>
      M.pure (.tuple ⟨[(.int .i64 x4_), (.int .i64 0)]⟩)))) M.stuck)) M.stuck)
def aroundText (_X : Task → M Value) (_L : LoopI) (x : Int × Unit) : M Value :=
  M.guard (!(decide ((255 : Int) = 0))) (M.guard (!(decide ((255 : Int) = 0))) (M.pure (.int .i64 (((IntKind.i64.wrap (((x.1 : Int).tmod 255) + 255)) : Int).tmod 255))))
def expText (tb ar t1 t2 : Nat) (z1 z2 : List Value) (X : Task → M Value) (_L : LoopI) (x : Int × Unit) : M Value :=
  M.callS (.tuple [.raw, .raw]) (X (.call tb [])) fun (r0_ : List Value × List Value × Unit) =>
  M.new (.cells (Row.ofList z1) t1 false (0, 0) false) fun b1_ =>
  M.new (.cells (Row.ofList z2) t2 false (0, 0) false) fun b2_ =>
  cond (Nat.beq r0_.1.length 255) (M.store (Addr.mk b1_ 0 none) r0_.1
  (cond (Nat.beq r0_.2.1.length 256) (M.store (Addr.mk b2_ 0 none) r0_.2.1
  (M.callS (.one (.cell (.int .i64))) (X (.call ar [(.int .i64 x.1)])) fun (r3_ : Int) =>
  M.guard (decide (0 ≤ r3_) && decide (r3_ < ((255 : Nat) : Int)))
  (M.load (.cell (.int .u8)) 1 ((Addr.mk b1_ 0 none).add ((Int.toNat r3_) * 1)) fun (x4_ : Int) =>
    M.pure (.int .u8 x4_)))) M.stuck)) M.stuck
def invText (lg ex : Nat) (X : Task → M Value) (_L : LoopI) (x : Int × Unit) : M Value :=
  M.callS (.tuple [(.cell (.int .i64)), (.cell (.int .i64))]) (X (.call lg [(.int .u8 x.1)])) fun (r0_ : Int × Int × Unit) =>
  M.ite (!(r0_.2.1 == 0))
  (M.pure (.tuple ⟨[(.int .u8 0), (.int .i64 r0_.2.1)]⟩))
  (M.callS (.one (.cell (.int .u8))) (X (.call ex [(.int .i64 (IntKind.i64.wrap (0 - r0_.1)))])) fun (r3_ : Int) =>
    M.pure (.tuple ⟨[(.int .u8 r3_), (.int .i64 0)]⟩))
def logTextF (tb t1 t2 : Nat) (z1 z2 : List Value) (X : Task → M Value) (_L : LoopI) (x : Int × Unit) : M Value :=
  M.ite (eqB x.1 0)
  (M.pure (.tuple ⟨[(.int .i64 0), (.int .i64 1)]⟩))
  (M.callS (.tuple [.raw, .raw]) (X (.call tb [])) fun (r1_ : List Value × List Value × Unit) =>
    M.new (.cells (Row.ofList z1) t1 false (0, 0) false) fun b2_ =>
    M.new (.cells (Row.ofList z2) t2 false (0, 0) false) fun b3_ =>
    cond (Nat.beq r1_.1.length 255) (M.store (Addr.mk b2_ 0 none) r1_.1
    (cond (Nat.beq r1_.2.1.length 256) (M.store (Addr.mk b3_ 0 none) r1_.2.1
    (M.guard (inB x.1 256)
    (M.load (.cell (.int .i64)) 1 ((Addr.mk b3_ 0 none).add ((Int.toNat x.1) * 1)) fun (x4_ : Int) =>
      M.pure (.tuple ⟨[(.int .i64 x4_), (.int .i64 0)]⟩)))) M.stuck)) M.stuck)
def aroundTextF (_X : Task → M Value) (_L : LoopI) (x : Int × Unit) : M Value :=
  M.guard (!(decide ((255 : Int) = 0))) (M.guard (!(decide ((255 : Int) = 0))) (M.pure (.int .i64 (((addW .i64 (((x.1 : Int).tmod 255)) 255) : Int).tmod 255))))
def expTextF (tb ar t1 t2 : Nat) (z1 z2 : List Value) (X : Task → M Value) (_L : LoopI) (x : Int × Unit) : M Value :=
  M.callS (.tuple [.raw, .raw]) (X (.call tb [])) fun (r0_ : List Value × List Value × Unit) =>
  M.new (.cells (Row.ofList z1) t1 false (0, 0) false) fun b1_ =>
  M.new (.cells (Row.ofList z2) t2 false (0, 0) false) fun b2_ =>
  cond (Nat.beq r0_.1.length 255) (M.store (Addr.mk b1_ 0 none) r0_.1
  (cond (Nat.beq r0_.2.1.length 256) (M.store (Addr.mk b2_ 0 none) r0_.2.1
  (M.callS (.one (.cell (.int .i64))) (X (.call ar [(.int .i64 x.1)])) fun (r3_ : Int) =>
  M.guard (inB r3_ 255)
  (M.load (.cell (.int .u8)) 1 ((Addr.mk b1_ 0 none).add ((Int.toNat r3_) * 1)) fun (x4_ : Int) =>
    M.pure (.int .u8 x4_)))) M.stuck)) M.stuck
def invTextF (lg ex : Nat) (X : Task → M Value) (_L : LoopI) (x : Int × Unit) : M Value :=
  M.callS (.tuple [(.cell (.int .i64)), (.cell (.int .i64))]) (X (.call lg [(.int .u8 x.1)])) fun (r0_ : Int × Int × Unit) =>
  M.ite (!(eqB r0_.2.1 0))
  (M.pure (.tuple ⟨[(.int .u8 0), (.int .i64 r0_.2.1)]⟩))
  (M.callS (.one (.cell (.int .u8))) (X (.call ex [(.int .i64 (IntKind.i64.wrap (0 - r0_.1)))])) fun (r3_ : Int) =>
    M.pure (.tuple ⟨[(.int .u8 r3_), (.int .i64 0)]⟩))
theorem logTextF_eq (tb t1 t2 : Nat) (z1 z2 : List Value) (X : Task → M Value) (L : LoopI) (x : Int × Unit) : logTextF tb t1 t2 z1 z2 X L x = logText tb t1 t2 z1 z2 X L x := by
  unfold logTextF logText
  simp only [eqB_eq, inB_eq]
theorem aroundTextF_eq (X : Task → M Value) (L : LoopI) (x : Int × Unit) : aroundTextF X L x = aroundText X L x := by
  unfold aroundTextF aroundText
  simp only [addW_eq]
theorem expTextF_eq (tb ar t1 t2 : Nat) (z1 z2 : List Value) (X : Task → M Value) (L : LoopI) (x : Int × Unit) : expTextF tb ar t1 t2 z1 z2 X L x = expText tb ar t1 t2 z1 z2 X L x := by
  unfold expTextF expText
  simp only [inB_eq]
theorem invTextF_eq (lg ex : Nat) (X : Task → M Value) (L : LoopI) (x : Int × Unit) : invTextF lg ex X L x = invText lg ex X L x := by
  unfold invTextF invText
  simp only [eqB_eq]
end
theorem callS_ok {ρ : Type} {A A1 : AW} {r : RSh} {m : M Value} {v : Value} {x : r.T} {K : r.T → M ρ} (h : m A = .ok v A1) (hp : r.prj v = some x) : M.callS r m K A = K x A1 := by
  unfold M.callS M.bind
  rw [h]
  simp only [hp]
  rfl
theorem store_new {A : AW} {r : Row} {e : TypeId} {g ish : Bool} {b : Nat} {l : List Value} (hg : A.get b = some (.cells r e g (0, 0) ish)) (hn : r.n = l.length) (h1 : l.all Value.oneCell' = true) :
    ∃ r', r'.list = l ∧ A.store ⟨b, 0, none⟩ l = some (A.put b (.cells r' e g (0, 0) ish)) := by
  have hw : r.write 0 l = some ⟨r.n, r.z, Row.writeS l r.t 0⟩ := by rw [Row.write_eq, if_pos (by rw [Row.list_length]; omega)]
  have hl := (Row.write_list hw).2
  have hlen := (Row.write_list hw).1
  rw [setAt_eq _ _ _ hlen, List.take_zero, List.nil_append, List.drop_eq_nil_of_le (by rw [Row.list_length]; omega), List.append_nil] at hl
  refine ⟨_, hl, ?_⟩
  unfold AW.store
  rw [hg]
  simp only [Option.isNone_none, Nat.ble, Bool.true_or, Bool.true_and, h1, cond_true, hw]
theorem load_one {A : AW} {r : Row} {e : TypeId} {g ish : Bool} {fz : Nat × Nat} {b i : Nat} {v : Value} (hg : A.get b = some (.cells r e g fz ish)) (hi : r.list[i]? = some v) : A.peek ((Addr.mk b 0 none).add (i * 1)) 1 = some [v] := by
  have hb : (Addr.mk b 0 none).add (i * 1) = ⟨b, i, none⟩ := by
    rw [add_eq rfl]; simp
  have hlt := (List.getElem?_eq_some_iff.1 hi).1
  rw [hb]
  unfold AW.peek
  rw [hg]
  simp only [Option.isNone_none, cond_true]
  rw [Row.read_eq, if_pos (by omega)]
  congr 1
  apply List.ext_getElem?
  intro j
  rw [List.getElem?_take, List.getElem?_drop]
  cases j with
  | zero => simp [hi]
  | succ j => simp
section
variable {tb ar t1 t2 lg ex : Nat} {z1 z2 : List Value} {X : Task → M Value} {L : LoopI} {A : AW}
theorem exp_ok : expVs.all Value.oneCell' = true := by decide +kernel
theorem log_ok : logVs.all Value.oneCell' = true := by decide +kernel
theorem exp_len : expVs.length = 255 := by decide +kernel
theorem log_len : logVs.length = 256 := by decide +kernel
theorem rows_run {es ls : List Value} {ρ : Type} (he : es.length = 255) (hl : ls.length = 256) (e1 : es.all Value.oneCell' = true) (l1 : ls.all Value.oneCell' = true) (hz1 : z1.length = 255) (hz2 : z2.length = 256) (K : Nat → Nat → M ρ) :
    ∃ A' b2 b3 r2 r3, (M.new (.cells (Row.ofList z1) t1 false (0, 0) false) fun b2_ =>
    M.new (.cells (Row.ofList z2) t2 false (0, 0) false) fun b3_ =>
    cond (Nat.beq es.length 255) (M.store (Addr.mk b2_ 0 none) es
    (cond (Nat.beq ls.length 256) (M.store (Addr.mk b3_ 0 none) ls (K b2_ b3_)) M.stuck)) M.stuck) A = K b2 b3 A' ∧
    A'.get b2 = some (.cells r2 t1 false (0, 0) false) ∧ A'.get b3 = some (.cells r3 t2 false (0, 0) false) ∧ r2.list = es ∧ r3.list = ls := by
  obtain ⟨A1, hA1⟩ : ∃ A1, A1 = (A.alloc (.cells (Row.ofList z1) t1 false (0, 0) false)).alloc (.cells (Row.ofList z2) t2 false (0, 0) false) := ⟨_, rfl⟩
  have g1 : A1.get A.next = some (.cells (Row.ofList z1) t1 false (0, 0) false) := by rw [hA1]; simp
  have g2 : A1.get (A.next + 1) = some (.cells (Row.ofList z2) t2 false (0, 0) false) := by rw [hA1]; simp
  obtain ⟨r2, h1, h2⟩ := store_new (l := es) g1 (by rw [he, ← hz1, Row.ofList_n]) e1
  obtain ⟨r3, h3, h4⟩ := store_new (A := A1.put A.next (.cells r2 t1 false (0, 0) false)) (b := A.next + 1) (r := Row.ofList z2) (e := t2) (g := false) (ish := false) (l := ls) (by simp [g2]) (by rw [hl, ← hz2, Row.ofList_n]) l1
  refine ⟨(A1.put A.next (.cells r2 t1 false (0, 0) false)).put (A.next + 1) (.cells r3 t2 false (0, 0) false), A.next, A.next + 1, r2, r3, ?_, ?_, ?_, h1, h3⟩
  · unfold M.new
    simp only [AW.next_alloc]
    rw [← hA1, he, hl]
    show M.store _ _ _ A1 = _
    unfold M.store
    rw [h2]
    show M.store _ _ _ _ = _
    unfold M.store
    rw [h4]
  · simp
  · simp
theorem log_run {es ls : List Value} (he : es.length = 255) (hl : ls.length = 256) (e1 : es.all Value.oneCell' = true) (l1 : ls.all Value.oneCell' = true) (hz1 : z1.length = 255) (hz2 : z2.length = 256)
    (hX : ∀ A, X (.call tb []) A = .ok (.tuple ⟨[.agg ⟨es⟩, .agg ⟨ls⟩]⟩) A) {a : Nat} (ha : a < 256) (h0 : a ≠ 0) {k : Int} (hk : ls[a]? = some (.int .i64 k)) (A : AW) :
    ∃ A', logText tb t1 t2 z1 z2 X L ((a : Int), ()) A = .ok (.tuple ⟨[.int .i64 k, .int .i64 0]⟩) A' := by
  unfold logText M.ite
  simp only
  rw [show ((a : Int) == 0) = false by simpa using h0]
  simp only [cond_false]
  obtain ⟨A', b2, b3, r2, r3, h1, h2, h3, h4, h5⟩ := rows_run (ρ := Value) (t1 := t1) (t2 := t2) (A := A) he hl e1 l1 hz1 hz2 (fun _ b3_ => M.guard (decide (0 ≤ (a : Int)) && decide ((a : Int) < ((256 : Nat) : Int)))
    (M.load (.cell (.int .i64)) 1 ((Addr.mk b3_ 0 none).add ((Int.toNat (a : Int)) * 1)) fun (x4_ : Int) => M.pure (.tuple ⟨[(.int .i64 x4_), (.int .i64 0)]⟩)))
  refine ⟨A', (callS_ok (r := .tuple [.raw, .raw]) (x := (es, ls, ())) (hX A) rfl).trans (h1.trans ?_)⟩
  have hd : (decide (0 ≤ (a : Int)) && decide ((a : Int) < ((256 : Nat) : Int))) = true := by simp; omega
  unfold M.guard
  rw [hd]
  simp only [cond_true, Int.toNat_natCast]
  unfold M.load
  rw [load_one h3 (by rw [h5]; exact hk)]
  rfl
theorem around_run (n : Int) (h1 : -255 < n) (h2 : n < 255) : aroundText X L (n, ()) A = .ok (.int .i64 (n.emod 255)) A := by
  have : ∀ k : Fin 509, ((IntKind.i64.wrap ((((k.val : Int) - 254).tmod 255) + 255)) : Int).tmod 255 = ((k.val : Int) - 254).emod 255 := by decide +kernel
  have h := this ⟨(n + 254).toNat, by omega⟩
  simp only at h
  rw [show (((n + 254).toNat : Nat) : Int) - 254 = n by omega] at h
  unfold aroundText M.guard
  simp only
  rw [h]
  rfl
theorem exp_run {es ls : List Value} (he : es.length = 255) (hl : ls.length = 256) (e1 : es.all Value.oneCell' = true) (l1 : ls.all Value.oneCell' = true) (hz1 : z1.length = 255) (hz2 : z2.length = 256)
    (hX : ∀ A, X (.call tb []) A = .ok (.tuple ⟨[.agg ⟨es⟩, .agg ⟨ls⟩]⟩) A) (hY : ∀ (A : AW) (n : Int), -255 < n → n < 255 → X (.call ar [.int .i64 n]) A = .ok (.int .i64 (n.emod 255)) A) {n : Int} (h1 : -255 < n) (h2 : n < 255)
    {q : Int} (hq : es[(n.emod 255).toNat]? = some (.int .u8 q)) (A : AW) : ∃ A', expText tb ar t1 t2 z1 z2 X L (n, ()) A = .ok (.int .u8 q) A' := by
  unfold expText
  simp only
  obtain ⟨A', b2, b3, r2, r3, k1, k2, k3, k4, k5⟩ := rows_run (ρ := Value) (t1 := t1) (t2 := t2) (A := A) he hl e1 l1 hz1 hz2 (fun b1_ _ => M.callS (.one (.cell (.int .i64))) (X (.call ar [(.int .i64 n)])) fun (r3_ : Int) =>
    M.guard (decide (0 ≤ r3_) && decide (r3_ < ((255 : Nat) : Int)))
    (M.load (.cell (.int .u8)) 1 ((Addr.mk b1_ 0 none).add ((Int.toNat r3_) * 1)) fun (x4_ : Int) => M.pure (.int .u8 x4_)))
  refine ⟨A', (callS_ok (r := .tuple [.raw, .raw]) (x := (es, ls, ())) (hX A) rfl).trans (k1.trans ((callS_ok (r := .one (.cell (.int .i64))) (x := n.emod 255) (hY A' n h1 h2) rfl).trans ?_))⟩
  have g1 : 0 ≤ n.emod 255 := Int.emod_nonneg _ (by decide)
  have g2 : n.emod 255 < 255 := Int.emod_lt_of_pos _ (by decide)
  have hd : (decide (0 ≤ n.emod 255) && decide (n.emod 255 < ((255 : Nat) : Int))) = true := by simp; omega
  unfold M.guard
  rw [hd]
  simp only [cond_true]
  unfold M.load
  rw [load_one k2 (by rw [k4]; exact hq)]
  rfl
theorem expL_len : expL.length = 255 := by decide +kernel
theorem logL_len : logL.length = 256 := by decide +kernel
theorem exp_at : ∀ i : Fin 255, expVs[i.val]? = some (.int .u8 (expL.getD i.val 0 : Nat)) := fun i => by
  have : i.val < expL.length := by rw [expL_len]; exact i.2
  simp [expVs, this]
theorem log_at : ∀ i : Fin 256, logVs[i.val]? = some (.int .i64 (logL.getD i.val 0 : Nat)) := fun i => by
  have : i.val < logL.length := by rw [logL_len]; exact i.2
  simp [logVs, this]
noncomputable def logV (a : Nat) : Value := if a = 0 then .tuple ⟨[.int .i64 0, .int .i64 1]⟩ else .tuple ⟨[.int .i64 (logL.getD a 0 : Nat), .int .i64 0]⟩
theorem log_all (hz1 : z1.length = 255) (hz2 : z2.length = 256) (hX : ∀ A, X (.call tb []) A = .ok tabV A) {a : Nat} (ha : a < 256) (A : AW) : ∃ A', logText tb t1 t2 z1 z2 X L ((a : Int), ()) A = .ok (logV a) A' := by
  unfold logV
  by_cases h0 : a = 0
  · subst h0
    exact ⟨A, rfl⟩
  · rw [if_neg h0]
    exact log_run exp_len log_len exp_ok log_ok hz1 hz2 hX ha h0 (log_at ⟨a, ha⟩) A
theorem exp_all (hz1 : z1.length = 255) (hz2 : z2.length = 256) (hX : ∀ A, X (.call tb []) A = .ok tabV A) (hY : ∀ (A : AW) (n : Int), -255 < n → n < 255 → X (.call ar [.int .i64 n]) A = .ok (.int .i64 (n.emod 255)) A) {n : Int} (h1 : -255 < n) (h2 : n < 255) (A : AW) :
    ∃ A', expText tb ar t1 t2 z1 z2 X L (n, ()) A = .ok (.int .u8 (expL.getD (n.emod 255).toNat 0 : Nat)) A' := by
  have g1 : 0 ≤ n.emod 255 := Int.emod_nonneg _ (by decide)
  have g2 : n.emod 255 < 255 := Int.emod_lt_of_pos _ (by decide)
  exact exp_run exp_len log_len exp_ok log_ok hz1 hz2 hX hY h1 h2 (exp_at ⟨(n.emod 255).toNat, by omega⟩) A
def invV (a : Nat) : Value := .tuple ⟨[.int .u8 (invL.getD a 0 : Nat), .int .i64 (if a = 0 then 1 else 0)]⟩
theorem inv_tab : ∀ a : Fin 256, a.val ≠ 0 → (logL.getD a.val 0 < 255 ∧ IntKind.i64.wrap (0 - (logL.getD a.val 0 : Nat)) = -((logL.getD a.val 0 : Nat) : Int) ∧ expL.getD ((-((logL.getD a.val 0 : Nat) : Int)).emod 255).toNat 0 = invL.getD a.val 0) := by decide +kernel
theorem inv_run (hX : ∀ (A : AW) (a : Nat), a < 256 → ∃ A', X (.call lg [.int .u8 (a : Nat)]) A = .ok (logV a) A') (hY : ∀ (A : AW) (n : Int), -255 < n → n < 255 → ∃ A', X (.call ex [.int .i64 n]) A = .ok (.int .u8 (expL.getD (n.emod 255).toNat 0 : Nat)) A') {a : Nat} (ha : a < 256) (A : AW) :
    ∃ A', invText lg ex X L ((a : Int), ()) A = .ok (invV a) A' := by
  obtain ⟨A1, h1⟩ := hX A a ha
  unfold invText
  simp only
  by_cases h0 : a = 0
  · subst h0
    exact ⟨A1, (callS_ok (r := .tuple [(.cell (.int .i64)), (.cell (.int .i64))]) (x := ((0 : Int), (1 : Int), ())) h1 rfl).trans rfl⟩
  · have hv : RSh.prj (.tuple [(.cell (.int .i64)), (.cell (.int .i64))]) (logV a) = some (((logL.getD a 0 : Nat) : Int), (0 : Int), ()) := by
      unfold logV; rw [if_neg h0]; rfl
    obtain ⟨q1, q2, q3⟩ := inv_tab ⟨a, ha⟩ h0
    simp only at q1 q2 q3
    obtain ⟨A2, h2⟩ := hY A1 (-((logL.getD a 0 : Nat) : Int)) (by omega) (by omega)
    refine ⟨A2, (callS_ok h1 hv).trans ?_⟩
    unfold M.ite
    simp only [beq_self_eq_true, Bool.not_true, cond_false]
    rw [q2]
    refine (callS_ok (r := .one (.cell (.int .u8))) (x := ((expL.getD ((-((logL.getD a 0 : Nat) : Int)).emod 255).toNat 0 : Nat) : Int)) h2 rfl).trans ?_
    rw [q3]
    unfold invV M.pure
    rw [if_neg h0]
end
theorem inv_solid (a : Nat) : solid (invV a) = true := rfl
noncomputable def invVs : List Value → Option Value
  | [.int .u8 (.ofNat a)] => Bool.rec none (some (invV a)) (Nat.blt a 256)
  | _ => none
noncomputable def sumInv (fi : FuncId) (S : Sums) : Sums := fun f args => Bool.rec (S f args) (invVs args) (Nat.beq fi f)
structure FieldAt (C : Cfg) where
  inv : Nat
  lg : Nat
  ex : Nat
  ar : Nat
  tb : Nat
  t1 : Nat
  t2 : Nat
  z1 : List Value
  z2 : List Value
  hz1 : z1.length = 255
  hz2 : z2.length = 256
  hinv : ∀ (X : Task → M Value) (L : LoopI) x, evBody C { call := X, loop := L } inv (shsInj [.cell (.int .u8)] x) = invText lg ex X L x
  hlg : ∀ (X : Task → M Value) (L : LoopI) x, evBody C { call := X, loop := L } lg (shsInj [.cell (.int .u8)] x) = logText tb t1 t2 z1 z2 X L x
  hex : ∀ (X : Task → M Value) (L : LoopI) x, evBody C { call := X, loop := L } ex (shsInj [.cell (.int .i64)] x) = expText tb ar t1 t2 z1 z2 X L x
  har : ∀ (X : Task → M Value) (L : LoopI) x, evBody C { call := X, loop := L } ar (shsInj [.cell (.int .i64)] x) = aroundText X L x
theorem sumInv_ok {C : Cfg} {S : Sums} (hC : COk C) (hS : SumsOk C.P S) (F : FieldAt C) (htab : ∀ w, CallsIn Fence.wide 0 C.P F.tb #[] w fun e w' => e = .returned tabV ∧ Below w.heap.size w w')
    (hd : (Nat.beq F.tb F.inv || Nat.beq F.tb F.lg || Nat.beq F.tb F.ex || Nat.beq F.tb F.ar) = false) : SumsOk C.P (sumInv F.inv S) := by
  simp only [Bool.or_eq_false_iff] at hd
  obtain ⟨⟨⟨d1, d2⟩, d3⟩, d4⟩ := hd
  have hS1 : SumsOk C.P (sumAlso F.tb tabV noSums) := sumAlso_ok (noSums_ok C.P) (by decide +kernel) htab
  have none_of : ∀ g args, Nat.beq F.tb g = false → sumAlso F.tb tabV noSums g args = none := by
    intro g args h
    unfold sumAlso noSums
    rw [h]
  have tab : ∀ n A, iterS C (Lw 10) (sumAlso F.tb tabV noSums) (n + 1) (.call F.tb []) A = .ok tabV A := by
    intro n A
    have : sumAlso F.tb tabV noSums F.tb [] = some tabV := by
      unfold sumAlso
      rw [Nat.beq_refl]
    simp only [iterS, this]
    rfl
  have run : ∀ a, a < 256 → ∃ A', iterS C (Lw 10) (sumAlso F.tb tabV noSums) 4 (.call F.inv [.int .u8 (a : Nat)]) (start0 C.P) = .ok (invV a) A' := by
    intro a ha
    have e0 : iterS C (Lw 10) (sumAlso F.tb tabV noSums) 4 (.call F.inv [.int .u8 (a : Nat)]) = invText F.lg F.ex (iterS C (Lw 10) (sumAlso F.tb tabV noSums) 3) (Lw 10) ((a : Int), ()) := by
      rw [iterS, none_of _ _ d1]
      exact F.hinv _ (Lw 10) ((a : Int), ())
    rw [e0]
    refine inv_run (fun A a ha => ?_) (fun A n h1 h2 => ?_) ha _
    · have e1 : iterS C (Lw 10) (sumAlso F.tb tabV noSums) 3 (.call F.lg [.int .u8 (a : Nat)]) = logText F.tb F.t1 F.t2 F.z1 F.z2 (iterS C (Lw 10) (sumAlso F.tb tabV noSums) 2) (Lw 10) ((a : Int), ()) := by
        rw [iterS, none_of _ _ d2]
        exact F.hlg _ (Lw 10) ((a : Int), ())
      rw [e1]
      exact log_all F.hz1 F.hz2 (fun A => tab 1 A) ha A
    · have e1 : iterS C (Lw 10) (sumAlso F.tb tabV noSums) 3 (.call F.ex [.int .i64 n]) = expText F.tb F.ar F.t1 F.t2 F.z1 F.z2 (iterS C (Lw 10) (sumAlso F.tb tabV noSums) 2) (Lw 10) (n, ()) := by
        rw [iterS, none_of _ _ d3]
        exact F.hex _ (Lw 10) (n, ())
      rw [e1]
      refine exp_all F.hz1 F.hz2 (fun A => tab 1 A) (fun A n h1 h2 => ?_) h1 h2 A
      have e2 : iterS C (Lw 10) (sumAlso F.tb tabV noSums) 2 (.call F.ar [.int .i64 n]) = aroundText (iterS C (Lw 10) (sumAlso F.tb tabV noSums) 1) (Lw 10) (n, ()) := by
        rw [iterS, none_of _ _ d4]
        exact F.har _ (Lw 10) (n, ())
      rw [e2]
      exact around_run n h1 h2
  intro f args u hu
  unfold sumInv at hu
  cases hb : Nat.beq F.inv f with
  | false => rw [hb] at hu; exact hS f args u hu
  | true =>
    rw [hb] at hu
    obtain rfl := Nat.eq_of_beq_eq_true hb
    have hu : invVs args = some u := hu
    unfold invVs at hu
    split at hu
    · rename_i a _
      rcases Nat.lt_or_ge a 256 with ha | ha
      · rw [show Nat.blt a 256 = true by simpa using ha] at hu
        obtain rfl : invV a = u := Option.some.inj hu
        obtain ⟨A', hA⟩ := run a ha
        exact ⟨rfl, inv_solid a, fun w => closedS hC (lok_whileN 10) hS1 rfl (inv_solid a) hA w⟩
      · rw [blt_no ha] at hu
        cases hu
    · cases hu
end Go.Eng
