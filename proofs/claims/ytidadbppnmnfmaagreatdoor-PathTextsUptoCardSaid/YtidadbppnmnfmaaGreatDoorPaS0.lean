/-
  What the functions come to, part 0: each text, and that the reading gives it.
-/
import Derived.Test.YtidadbppnmnfmaaGreatDoorPaH
import Derived.KernelRfl
set_option linter.unusedVariables false
namespace Go.Proofs.YtidadbppnmnfmaaGreatDoor.pa
open Go Go.Eng
noncomputable section
/-- hayrick/hayricklaw22.PathTexts -/
def f3c0 (X : XT) (L : LoopI) (x : (ByteArray) × (ByteArray) × (SL) × Unit) (a0_ : PA) (n1_ : Nat) (c2_ : Nat) (go8_ : ((Bool) × Unit) → M (Value)) (v12_ : Bool) : M (Value) :=
 M.ite v12_
 (M.callS (.one (.cell .bool)) (X (.call 11 [(.string x.1), (.string x.2.1)])) fun (r13_ : Bool) =>
 M.callS (.one (.cell .bool)) (X (.call 12 [(.string x.1), (.string x.2.1)])) fun (r14_ : Bool) =>
 M.ite (r13_ == r14_)
 (M.callS (.one (.cell .bool)) (X (.call 10 [(.slice a0_ n1_ c2_), (.slice x.2.2.1.1 x.2.2.1.2.1 x.2.2.1.2.2)])) fun (r16_ : Bool) =>
 M.ite r16_
 (M.callS (.one (.cell .bool)) (X (.call 13 [])) fun (r17_ : Bool) =>
 go8_ (r17_, ()))
 (go8_ (false, ())))
 (go8_ (false, ())))
 (go8_ (false, ()))
def f3c1 (X : XT) (L : LoopI) (x : (ByteArray) × (ByteArray) × (SL) × Unit) (a0_ : PA) (n1_ : Nat) (c2_ : Nat) (r3_ : (SL) × (Int) × Unit) (r4_ : (SL) × (Int) × Unit) (r5_ : (ByteArray) × (Int) × Unit) : M (Value) :=
 M.callS (.tuple [(.cell .string), (.cell (.int .i64))]) (X (.call 9 [(.slice x.2.2.1.1 x.2.2.1.2.1 x.2.2.1.2.2)])) fun (r6_ : (ByteArray) × (Int) × Unit) =>
 M.join (fun (j7_ : (Bool) × Unit) =>
 M.pure (.bool j7_.1)) fun go8_ =>
 M.callS (.one (.cell .bool)) (X (.call 10 [(.slice r3_.1.1 r3_.1.2.1 r3_.1.2.2), (.slice r4_.1.1 r4_.1.2.1 r4_.1.2.2)])) fun (r9_ : Bool) =>
 M.ite r9_
 (M.ite (eqB r3_.2.1 r4_.2.1)
 (M.ite (seq r5_.1 r6_.1)
 (f3c0 X L x a0_ n1_ c2_ go8_ (eqB r5_.2.1 r6_.2.1))
 (go8_ (false, ())))
 (go8_ (false, ())))
 (go8_ (false, ()))
def f3 (X : XT) (L : LoopI) (x : (ByteArray) × (ByteArray) × (SL) × Unit) : M Value :=
 M.append 9 1 16 none 0 0 (.slice x.2.2.1.1 x.2.2.1.2.1 x.2.2.1.2.2) fun a0_ n1_ c2_ =>
 M.callS (.tuple [(.cell .slice), (.cell (.int .i64))]) (X (.call 6 [(.string x.1)])) fun (r3_ : (SL) × (Int) × Unit) =>
 M.callS (.tuple [(.cell .slice), (.cell (.int .i64))]) (X (.call 7 [(.string x.1)])) fun (r4_ : (SL) × (Int) × Unit) =>
 M.callS (.tuple [(.cell .string), (.cell (.int .i64))]) (X (.call 8 [(.slice a0_ n1_ c2_)])) fun (r5_ : (ByteArray) × (Int) × Unit) =>
 f3c1 X L x a0_ n1_ c2_ r3_ r4_ r5_

theorem e3 (X : XT) (L : LoopI) (x : (ByteArray) × (ByteArray) × (SL) × Unit) : evBody CC { call := X, loop := L } 3 (shsInj [(.cell .string), (.cell .string), (.cell .slice)] x) = f3 X L x := by kernel_rfl

/-- hayrick/path.Split -/
def f6c0 (X : XT) (L : LoopI) (r5_ : SL) (v7_ : Int) : M (Value) :=
 M.bind (L (σ := (Int) × Unit) (ρ := (Unit) ⊕ (((SL) × (Int) × Unit) ⊕ (Unit))) (fun s8_ =>
 M.ite (ltB s8_.1 v7_)
 (M.guard (inB s8_.1 r5_.2.1)
 (M.deref r5_.1 fun a10_ =>
 M.load (.cell .string) 1 (a10_.add ((Int.toNat s8_.1) * 1)) fun (x11_ : ByteArray) =>
 M.callS (.one (.cell .bool)) (X (.call 14 [(.string x11_)])) fun (r12_ : Bool) =>
 M.ite (!r12_)
 (M.pure (.inr (.inr (.inl ((none, 0, 0), 31, ())))))
 (M.pure (.inl ((addW .i64 s8_.1 1), ())))))
 (M.pure (.inr (.inl (()))))) (0, ())) <| M.sum (fun (j15_ : Unit) =>
 M.pure (.tuple ⟨[(.slice r5_.1 r5_.2.1 r5_.2.2), (.int .i64 0)]⟩)) (M.sum (fun (j16_ : (SL) × (Int) × Unit) =>
 M.pure (.tuple ⟨[(.slice j16_.1.1 j16_.1.2.1 j16_.1.2.2), (.int .i64 j16_.2.1)]⟩)) (fun _ => M.stuck))
def f6c1 (X : XT) (L : LoopI) (x : (ByteArray) × Unit) (j0_ : (Bool) × Unit) : M (Value) :=
 M.ite j0_.1
 (M.pure (.tuple ⟨[(.slice none 0 0), (.int .i64 30)]⟩))
 (M.ite (seq x.1 st1)
 (M.pure (.tuple ⟨[(.slice none 0 0), (.int .i64 0)]⟩))
 (M.guard (upB 1 x.1.size)
 (M.callS (.one (.cell .slice)) (X (.call 16 [(.string (x.1.extract (Int.toNat 1) x.1.size))])) fun (r5_ : SL) =>
 M.callS (.one (.cell .bool)) (X (.call 17 [(.slice r5_.1 r5_.2.1 r5_.2.2), (.string st0)])) fun (r6_ : Bool) =>
 M.ite r6_
 (M.pure (.tuple ⟨[(.slice none 0 0), (.int .i64 30)]⟩))
 (f6c0 X L r5_ ((r5_.2.1 : Nat) : Int)))))
def f6 (X : XT) (L : LoopI) (x : (ByteArray) × Unit) : M Value :=
 M.join (fun (j0_ : (Bool) × Unit) =>
 f6c1 X L x j0_) fun go1_ =>
 M.ite (ltB 256 ((x.1.size : Nat) : Int))
 (go1_ (true, ()))
 (M.callS (.one (.cell .bool)) (X (.call 15 [(.string x.1), (.string st1)])) fun (r19_ : Bool) =>
 go1_ ((!r19_), ()))

theorem e6 (X : XT) (L : LoopI) (x : (ByteArray) × Unit) : evBody CC { call := X, loop := L } 6 (shsInj [(.cell .string)] x) = f6 X L x := by kernel_rfl

/-- hayrick/hayrickref22.Split -/
def f7c0 (X : XT) (L : LoopI) (x : (ByteArray) × Unit) (s8_ : (SL) × (Int) × (Int) × Unit) (go12_ : ((SL) × (Int) × Unit) → M (((SL) × (Int) × (Int) × Unit) ⊕ (((SL) × Unit) ⊕ (((SL) × (Int) × Unit) ⊕ (Unit))))) (j14_ : (Bool) × Unit) : M (((SL) × (Int) × (Int) × Unit) ⊕ (((SL) × Unit) ⊕ (((SL) × (Int) × Unit) ⊕ (Unit)))) :=
 M.ite j14_.1
 (M.ite (eqB s8_.2.2.1 s8_.2.1)
 (M.pure (.inr (.inr (.inl ((none, 0, 0), 30, ())))))
 (M.guard (upB s8_.2.2.1 x.1.size)
 (let v17_ : Nat := (Int.toNat s8_.2.2.1)
 M.guard (upB s8_.2.1 v17_)
 (M.new (.cells (Row.ofList [(.string (x.1.extract (Int.toNat s8_.2.1) v17_))]) 9 false (0, 0) false) fun b20_ =>
 M.append 9 1 16 s8_.1.1 s8_.1.2.1 s8_.1.2.2 (.slice (some (Addr.mk b20_ 0 none)) 1 1) fun a21_ n22_ c23_ =>
 go12_ ((a21_, n22_, c23_), (addW .i64 s8_.2.2.1 1), ())))))
 (go12_ (s8_.1, s8_.2.1, ()))
def f7c1 (X : XT) (L : LoopI) (j29_ : (SL) × Unit) : M (Value) :=
 M.bind (L (σ := (Int) × Unit) (ρ := (Unit) ⊕ (((SL) × (Int) × Unit) ⊕ (Unit))) (fun s30_ =>
 M.ite (ltB s30_.1 ((j29_.1.2.1 : Nat) : Int))
 (M.guard (inB s30_.1 j29_.1.2.1)
 (M.deref j29_.1.1 fun a33_ =>
 M.load (.cell .string) 1 (a33_.add ((Int.toNat s30_.1) * 1)) fun (x34_ : ByteArray) =>
 M.callS (.one (.cell .bool)) (X (.call 18 [(.string x34_)])) fun (r35_ : Bool) =>
 M.ite (!r35_)
 (M.pure (.inr (.inr (.inl ((none, 0, 0), 31, ())))))
 (M.pure (.inl ((addW .i64 s30_.1 1), ())))))
 (M.pure (.inr (.inl (()))))) (0, ())) <| M.sum (fun (j38_ : Unit) =>
 M.pure (.tuple ⟨[(.slice j29_.1.1 j29_.1.2.1 j29_.1.2.2), (.int .i64 0)]⟩)) (M.sum (fun (j39_ : (SL) × (Int) × Unit) =>
 M.pure (.tuple ⟨[(.slice j39_.1.1 j39_.1.2.1 j39_.1.2.2), (.int .i64 j39_.2.1)]⟩)) (fun _ => M.stuck))
def f7c2 (X : XT) (L : LoopI) (x : (ByteArray) × Unit) : M (Value) :=
 M.bind (L (σ := (SL) × (Int) × (Int) × Unit) (ρ := ((SL) × Unit) ⊕ (((SL) × (Int) × Unit) ⊕ (Unit))) (fun s8_ =>
 M.ite (leB s8_.2.2.1 ((x.1.size : Nat) : Int))
 (M.join (fun (j11_ : (SL) × (Int) × Unit) =>
 M.pure (.inl (j11_.1, j11_.2.1, (addW .i64 s8_.2.2.1 1), ()))) fun go12_ =>
 M.join (fun (j14_ : (Bool) × Unit) =>
 f7c0 X L x s8_ go12_ j14_) fun go15_ =>
 M.ite (eqB s8_.2.2.1 ((x.1.size : Nat) : Int))
 (go15_ (true, ()))
 (M.guard (inB s8_.2.2.1 x.1.size)
 (go15_ ((eqB (byteAt x.1 s8_.2.2.1) 47), ()))))
 (M.pure (.inr (.inl (s8_.1, ()))))) ((none, 0, 0), 1, 1, ())) <| M.sum (fun (j29_ : (SL) × Unit) =>
 f7c1 X L j29_) (M.sum (fun (j40_ : (SL) × (Int) × Unit) =>
 M.pure (.tuple ⟨[(.slice j40_.1.1 j40_.1.2.1 j40_.1.2.2), (.int .i64 j40_.2.1)]⟩)) (fun _ => M.stuck))
def f7c3 (X : XT) (L : LoopI) (x : (ByteArray) × Unit) : M (Value) :=
 M.join (fun (j0_ : (Bool) × Unit) =>
 M.ite j0_.1
 (M.pure (.tuple ⟨[(.slice none 0 0), (.int .i64 30)]⟩))
 (M.ite (eqB ((x.1.size : Nat) : Int) 1)
 (M.pure (.tuple ⟨[(.slice none 0 0), (.int .i64 0)]⟩))
 (let v5_ : Int := subW .i64 ((x.1.size : Nat) : Int) 1
 M.guard (inB v5_ x.1.size)
 (M.ite (eqB (byteAt x.1 v5_) 47)
 (M.pure (.tuple ⟨[(.slice none 0 0), (.int .i64 30)]⟩))
 (f7c2 X L x))))) fun go1_ =>
 M.ite (eqB ((x.1.size : Nat) : Int) 0)
 (go1_ (true, ()))
 (M.ite (ltB 256 ((x.1.size : Nat) : Int))
 (go1_ (true, ()))
 (M.guard (inB 0 x.1.size)
 (go1_ ((!(eqB (byteAt x.1 0) 47)), ()))))
def f7 (X : XT) (L : LoopI) (x : (ByteArray) × Unit) : M Value :=
 f7c3 X L x

theorem e7 (X : XT) (L : LoopI) (x : (ByteArray) × Unit) : evBody CC { call := X, loop := L } 7 (shsInj [(.cell .string)] x) = f7 X L x := by kernel_rfl

/-- hayrick/path.Join -/
def f8c0 (X : XT) (L : LoopI) (x : (SL) × Unit) (v0_ : Int) : M (Value) :=
 M.bind (L (σ := (Int) × Unit) (ρ := (Unit) ⊕ (((ByteArray) × (Int) × Unit) ⊕ (Unit))) (fun s1_ =>
 M.ite (ltB s1_.1 v0_)
 (M.guard (inB s1_.1 x.1.2.1)
 (M.deref x.1.1 fun a3_ =>
 M.load (.cell .string) 1 (a3_.add ((Int.toNat s1_.1) * 1)) fun (x4_ : ByteArray) =>
 M.callS (.one (.cell .bool)) (X (.call 14 [(.string x4_)])) fun (r5_ : Bool) =>
 M.ite (!r5_)
 (M.pure (.inr (.inr (.inl (st0, 31, ())))))
 (M.pure (.inl ((addW .i64 s1_.1 1), ())))))
 (M.pure (.inr (.inl (()))))) (0, ())) <| M.sum (fun (j8_ : Unit) =>
 M.callS (.one (.cell .string)) (X (.call 19 [(.slice x.1.1 x.1.2.1 x.1.2.2)])) fun (r9_ : ByteArray) =>
 M.ite (ltB 256 ((r9_.size : Nat) : Int))
 (M.pure (.tuple ⟨[(.string st0), (.int .i64 30)]⟩))
 (M.ite (seq r9_ st0)
 (M.pure (.tuple ⟨[(.string st1), (.int .i64 0)]⟩))
 (M.pure (.tuple ⟨[(.string r9_), (.int .i64 0)]⟩)))) (M.sum (fun (j13_ : (ByteArray) × (Int) × Unit) =>
 M.pure (.tuple ⟨[(.string j13_.1), (.int .i64 j13_.2.1)]⟩)) (fun _ => M.stuck))
def f8 (X : XT) (L : LoopI) (x : (SL) × Unit) : M Value :=
 f8c0 X L x ((x.1.2.1 : Nat) : Int)

theorem e8 (X : XT) (L : LoopI) (x : (SL) × Unit) : evBody CC { call := X, loop := L } 8 (shsInj [(.cell .slice)] x) = f8 X L x := by kernel_rfl

/-- hayrick/hayrickref22.Join -/
def f9c0 (X : XT) (L : LoopI) (x : (SL) × Unit) (s0_ : (ByteArray) × (Int) × Unit) (go4_ : ((ByteArray) × Unit) → M (((ByteArray) × (Int) × Unit) ⊕ (((ByteArray) × Unit) ⊕ (((ByteArray) × (Int) × Unit) ⊕ (Unit))))) (x7_ : ByteArray) : M (((ByteArray) × (Int) × Unit) ⊕ (((ByteArray) × Unit) ⊕ (((ByteArray) × (Int) × Unit) ⊕ (Unit)))) :=
 M.callS (.one (.cell .bool)) (X (.call 18 [(.string x7_)])) fun (r8_ : Bool) =>
 M.ite (!r8_)
 (M.pure (.inr (.inr (.inl (st0, 31, ())))))
 (M.ite (leB ((s0_.1.size : Nat) : Int) 256)
 (M.guard (Nat.ble (s0_.1.size + st1.size) 9223372036854775807)
 (let v12_ : ByteArray := s0_.1 ++ st1
 M.guard (inB s0_.2.1 x.1.2.1)
 (M.deref x.1.1 fun a13_ =>
 M.load (.cell .string) 1 (a13_.add ((Int.toNat s0_.2.1) * 1)) fun (x14_ : ByteArray) =>
 M.guard (Nat.ble (v12_.size + x14_.size) 9223372036854775807)
 (go4_ ((v12_ ++ x14_), ())))))
 (go4_ (s0_.1, ())))
def f9c1 (X : XT) (L : LoopI) (x : (SL) × Unit) : M (Value) :=
 M.bind (L (σ := (ByteArray) × (Int) × Unit) (ρ := ((ByteArray) × Unit) ⊕ (((ByteArray) × (Int) × Unit) ⊕ (Unit))) (fun s0_ =>
 M.ite (ltB s0_.2.1 ((x.1.2.1 : Nat) : Int))
 (M.join (fun (j3_ : (ByteArray) × Unit) =>
 M.pure (.inl (j3_.1, (addW .i64 s0_.2.1 1), ()))) fun go4_ =>
 M.guard (inB s0_.2.1 x.1.2.1)
 (M.deref x.1.1 fun a6_ =>
 M.load (.cell .string) 1 (a6_.add ((Int.toNat s0_.2.1) * 1)) fun (x7_ : ByteArray) =>
 f9c0 X L x s0_ go4_ x7_))
 (M.pure (.inr (.inl (s0_.1, ()))))) (st0, 0, ())) <| M.sum (fun (j16_ : (ByteArray) × Unit) =>
 M.ite (ltB 256 ((j16_.1.size : Nat) : Int))
 (M.pure (.tuple ⟨[(.string st0), (.int .i64 30)]⟩))
 (M.ite (seq j16_.1 st0)
 (M.pure (.tuple ⟨[(.string st1), (.int .i64 0)]⟩))
 (M.pure (.tuple ⟨[(.string j16_.1), (.int .i64 0)]⟩)))) (M.sum (fun (j20_ : (ByteArray) × (Int) × Unit) =>
 M.pure (.tuple ⟨[(.string j20_.1), (.int .i64 j20_.2.1)]⟩)) (fun _ => M.stuck))
def f9 (X : XT) (L : LoopI) (x : (SL) × Unit) : M Value :=
 f9c1 X L x

theorem e9 (X : XT) (L : LoopI) (x : (SL) × Unit) : evBody CC { call := X, loop := L } 9 (shsInj [(.cell .slice)] x) = f9 X L x := by kernel_rfl

/-- hayrick/hayrickref22.Same -/
def f10c0 (X : XT) (L : LoopI) (x : (SL) × (SL) × Unit) : M (Value) :=
 M.bind (L (σ := (Int) × Unit) (ρ := (Unit) ⊕ (((Bool) × Unit) ⊕ (Unit))) (fun s3_ =>
 M.ite (ltB s3_.1 ((x.1.2.1 : Nat) : Int))
 (M.guard (inB s3_.1 x.1.2.1)
 (M.deref x.1.1 fun a6_ =>
 M.load (.cell .string) 1 (a6_.add ((Int.toNat s3_.1) * 1)) fun (x7_ : ByteArray) =>
 M.guard (inB s3_.1 x.2.1.2.1)
 (M.deref x.2.1.1 fun a8_ =>
 M.load (.cell .string) 1 (a8_.add ((Int.toNat s3_.1) * 1)) fun (x9_ : ByteArray) =>
 M.ite (!(seq x7_ x9_))
 (M.pure (.inr (.inr (.inl (false, ())))))
 (M.pure (.inl ((addW .i64 s3_.1 1), ()))))))
 (M.pure (.inr (.inl (()))))) (0, ())) <| M.sum (fun (j12_ : Unit) =>
 M.pure (.bool true)) (M.sum (fun (j13_ : (Bool) × Unit) =>
 M.pure (.bool j13_.1)) (fun _ => M.stuck))
def f10 (X : XT) (L : LoopI) (x : (SL) × (SL) × Unit) : M Value :=
 M.ite (!(eqB ((x.1.2.1 : Nat) : Int) ((x.2.1.2.1 : Nat) : Int)))
 (M.pure (.bool false))
 (f10c0 X L x)

theorem e10 (X : XT) (L : LoopI) (x : (SL) × (SL) × Unit) : evBody CC { call := X, loop := L } 10 (shsInj [(.cell .slice), (.cell .slice)] x) = f10 X L x := by kernel_rfl

/-- hayrick/path.Under -/
def f11c0 (X : XT) (L : LoopI) (r0_ : (SL) × (Int) × Unit) (r1_ : (SL) × (Int) × Unit) : M (Value) :=
 M.join (fun (j2_ : (Bool) × Unit) =>
 M.pure (.bool j2_.1)) fun go3_ =>
 M.ite (eqB r0_.2.1 0)
 (M.ite (eqB r1_.2.1 0)
 (M.ite (ltB ((r0_.1.2.1 : Nat) : Int) ((r1_.1.2.1 : Nat) : Int))
 (let v9_ : Int := ((r0_.1.2.1 : Nat) : Int)
 M.guard (upB v9_ r1_.1.2.2)
 (M.callS (.one (.cell .bool)) (X (.call 20 [(.slice r0_.1.1 r0_.1.2.1 r0_.1.2.2), (.slice (r1_.1.1.map (·.add (0 * 1))) ((Int.toNat v9_) - 0) (r1_.1.2.2 - 0))])) fun (r11_ : Bool) =>
 go3_ (r11_, ())))
 (go3_ (false, ())))
 (go3_ (false, ())))
 (go3_ (false, ()))
def f11 (X : XT) (L : LoopI) (x : (ByteArray) × (ByteArray) × Unit) : M Value :=
 M.callS (.tuple [(.cell .slice), (.cell (.int .i64))]) (X (.call 6 [(.string x.1)])) fun (r0_ : (SL) × (Int) × Unit) =>
 M.callS (.tuple [(.cell .slice), (.cell (.int .i64))]) (X (.call 6 [(.string x.2.1)])) fun (r1_ : (SL) × (Int) × Unit) =>
 f11c0 X L r0_ r1_

theorem e11 (X : XT) (L : LoopI) (x : (ByteArray) × (ByteArray) × Unit) : evBody CC { call := X, loop := L } 11 (shsInj [(.cell .string), (.cell .string)] x) = f11 X L x := by kernel_rfl

/-- hayrick/hayrickref22.Under -/
def f12c0 (X : XT) (L : LoopI) (r0_ : (SL) × (Int) × Unit) (r1_ : (SL) × (Int) × Unit) : M (Value) :=
 M.bind (L (σ := (Int) × Unit) (ρ := (Unit) ⊕ (((Bool) × Unit) ⊕ (Unit))) (fun s4_ =>
 M.ite (ltB s4_.1 ((r0_.1.2.1 : Nat) : Int))
 (M.guard (inB s4_.1 r0_.1.2.1)
 (M.deref r0_.1.1 fun a7_ =>
 M.load (.cell .string) 1 (a7_.add ((Int.toNat s4_.1) * 1)) fun (x8_ : ByteArray) =>
 M.guard (inB s4_.1 r1_.1.2.1)
 (M.deref r1_.1.1 fun a9_ =>
 M.load (.cell .string) 1 (a9_.add ((Int.toNat s4_.1) * 1)) fun (x10_ : ByteArray) =>
 M.ite (!(seq x8_ x10_))
 (M.pure (.inr (.inr (.inl (false, ())))))
 (M.pure (.inl ((addW .i64 s4_.1 1), ()))))))
 (M.pure (.inr (.inl (()))))) (0, ())) <| M.sum (fun (j13_ : Unit) =>
 M.pure (.bool true)) (M.sum (fun (j14_ : (Bool) × Unit) =>
 M.pure (.bool j14_.1)) (fun _ => M.stuck))
def f12c1 (X : XT) (L : LoopI) (x : (ByteArray) × (ByteArray) × Unit) : M (Value) :=
 M.callS (.tuple [(.cell .slice), (.cell (.int .i64))]) (X (.call 7 [(.string x.1)])) fun (r0_ : (SL) × (Int) × Unit) =>
 M.callS (.tuple [(.cell .slice), (.cell (.int .i64))]) (X (.call 7 [(.string x.2.1)])) fun (r1_ : (SL) × (Int) × Unit) =>
 M.join (fun (j2_ : (Bool) × Unit) =>
 M.ite j2_.1
 (M.pure (.bool false))
 (f12c0 X L r0_ r1_)) fun go3_ =>
 M.ite (!(eqB r0_.2.1 0))
 (go3_ (true, ()))
 (M.ite (!(eqB r1_.2.1 0))
 (go3_ (true, ()))
 (go3_ ((leB ((r1_.1.2.1 : Nat) : Int) ((r0_.1.2.1 : Nat) : Int)), ())))
def f12 (X : XT) (L : LoopI) (x : (ByteArray) × (ByteArray) × Unit) : M Value :=
 f12c1 X L x

theorem e12 (X : XT) (L : LoopI) (x : (ByteArray) × (ByteArray) × Unit) : evBody CC { call := X, loop := L } 12 (shsInj [(.cell .string), (.cell .string)] x) = f12 X L x := by kernel_rfl

/-- hayrick/hayricklaw22.wakes -/
def f13c0 (X : XT) (L : LoopI) (r12_ : (SL) × (Int) × Unit) (r13_ : (Int) × (Int) × Unit) (r14_ : (Int) × (Int) × Unit) (r15_ : (Int) × (ByteArray) × (Int) × Unit) : M (Value) :=
 M.join (fun (j16_ : (Bool) × Unit) =>
 M.pure (.bool j16_.1)) fun go17_ =>
 M.ite (eqB r12_.2.1 0)
 (M.ite (eqB ((r12_.1.2.1 : Nat) : Int) 3)
 (M.guard (inB 2 r12_.1.2.1)
 (M.deref r12_.1.1 fun a21_ =>
 M.load (.cell (.int .i64)) 1 (a21_.add ((Int.toNat 2) * 1)) fun (x22_ : Int) =>
 M.ite (eqB x22_ 3)
 (M.ite (eqB r13_.2.1 34)
 (M.ite (eqB r14_.2.1 32)
 (M.ite (eqB r15_.1 2)
 (M.ite (seq r15_.2.1 st10)
 (go17_ ((eqB r15_.2.2.1 0), ()))
 (go17_ (false, ())))
 (go17_ (false, ())))
 (go17_ (false, ())))
 (go17_ (false, ())))
 (go17_ (false, ()))))
 (go17_ (false, ())))
 (go17_ (false, ()))
def f13c1 (X : XT) (L : LoopI) (r10_ : (PA) × (PA) × Unit) (r12_ : (SL) × (Int) × Unit) : M (Value) :=
 M.callS (.tuple [(.cell (.int .i64)), (.cell (.int .i64))]) (X (.call 23 [(.pointer r10_.1), (.string st7)])) fun (r13_ : (Int) × (Int) × Unit) =>
 M.callS (.tuple [(.cell (.int .i64)), (.cell (.int .i64))]) (X (.call 23 [(.pointer r10_.1), (.string st8)])) fun (r14_ : (Int) × (Int) × Unit) =>
 M.callS (.tuple [(.cell (.int .i64)), (.cell .string), (.cell (.int .i64))]) (X (.call 24 [(.pointer r10_.1), (.string st9)])) fun (r15_ : (Int) × (ByteArray) × (Int) × Unit) =>
 f13c0 X L r12_ r13_ r14_ r15_
def f13c2 (X : XT) (L : LoopI) (r0_ : (SL) × (Int) × Unit) (b7_ : Nat) (b8_ : Nat) : M (Value) :=
 M.new (.cells (Row.ofList [(.int .i64 1), (.bool false), (.slice (some (Addr.mk b7_ 0 none)) 1 1), (.int .i64 2), (.bool false), (.slice (some (Addr.mk b8_ 0 none)) 1 1), (.int .i64 3), (.bool true), (.slice none 0 0)]) 50 false (0, 0) false) fun b9_ =>
 M.callS (.tuple [(.cell .ptr), (.cell .ptr)]) (X (.call 21 [(.slice (some (Addr.mk b9_ 0 none)) 3 3)])) fun (r10_ : (PA) × (PA) × Unit) =>
 M.eqPtr r10_.1 none fun (q11_ : Bool) =>
 M.ite q11_
 (M.pure (.bool false))
 (M.callS (.tuple [(.cell .slice), (.cell (.int .i64))]) (X (.call 22 [(.pointer r10_.1), (.slice r0_.1.1 r0_.1.2.1 r0_.1.2.2)])) fun (r12_ : (SL) × (Int) × Unit) =>
 f13c1 X L r10_ r12_)
def f13c3 (X : XT) (L : LoopI) (r2_ : (ByteArray) × (Int) × Unit) (r3_ : (SL) × (Int) × Unit) (r4_ : (SL) × (Int) × Unit) (go6_ : ((Bool) × Unit) → M (Value)) (a32_ : Addr) : M (Value) :=
 M.load (.cell .string) 1 (a32_.add ((Int.toNat 1) * 1)) fun (x33_ : ByteArray) =>
 M.ite (!(seq x33_ st4))
 (go6_ (true, ()))
 (M.ite (!(eqB r2_.2.1 0))
 (go6_ (true, ()))
 (M.ite (!(seq r2_.1 st2))
 (go6_ (true, ()))
 (M.ite (!(eqB r3_.2.1 30))
 (go6_ (true, ()))
 (M.ite (!(eqB r4_.2.1 31))
 (go6_ (true, ()))
 (M.callS (.one (.cell .bool)) (X (.call 11 [(.string st11), (.string st2)])) fun (r39_ : Bool) =>
 M.ite (!r39_)
 (go6_ (true, ()))
 (M.callS (.one (.cell .bool)) (X (.call 11 [(.string st11), (.string st12)])) fun (r41_ : Bool) =>
 go6_ (r41_, ())))))))
def f13c4 (X : XT) (L : LoopI) (r0_ : (SL) × (Int) × Unit) (r2_ : (ByteArray) × (Int) × Unit) (r3_ : (SL) × (Int) × Unit) : M (Value) :=
 M.callS (.tuple [(.cell .slice), (.cell (.int .i64))]) (X (.call 6 [(.string st6)])) fun (r4_ : (SL) × (Int) × Unit) =>
 M.join (fun (j5_ : (Bool) × Unit) =>
 M.ite j5_.1
 (M.pure (.bool false))
 (M.new (.cells (Row.ofList [(.int .i64 2), (.string st3)]) 47 false (0, 0) false) fun b7_ =>
 M.new (.cells (Row.ofList [(.int .i64 3), (.string st4)]) 47 false (0, 0) false) fun b8_ =>
 f13c2 X L r0_ b7_ b8_)) fun go6_ =>
 M.ite (!(eqB r0_.2.1 0))
 (go6_ (true, ()))
 (M.ite (!(eqB ((r0_.1.2.1 : Nat) : Int) 2))
 (go6_ (true, ()))
 (M.guard (inB 1 r0_.1.2.1)
 (M.deref r0_.1.1 fun a32_ =>
 f13c3 X L r2_ r3_ r4_ go6_ a32_)))
def f13c5 (X : XT) (L : LoopI) : M (Value) :=
 M.callS (.tuple [(.cell .slice), (.cell (.int .i64))]) (X (.call 6 [(.string st2)])) fun (r0_ : (SL) × (Int) × Unit) =>
 M.new (.cells (Row.ofList [(.string st3), (.string st4)]) 9 false (0, 0) false) fun b1_ =>
 M.callS (.tuple [(.cell .string), (.cell (.int .i64))]) (X (.call 8 [(.slice (some (Addr.mk b1_ 0 none)) 2 2)])) fun (r2_ : (ByteArray) × (Int) × Unit) =>
 M.callS (.tuple [(.cell .slice), (.cell (.int .i64))]) (X (.call 6 [(.string st5)])) fun (r3_ : (SL) × (Int) × Unit) =>
 f13c4 X L r0_ r2_ r3_
def f13 (X : XT) (L : LoopI) (x : Unit) : M Value :=
 f13c5 X L

theorem e13 (X : XT) (L : LoopI) (x : Unit) : evBody CC { call := X, loop := L } 13 (shsInj [] x) = f13 X L x := by kernel_rfl

/-- hayrick/names.Valid -/
def f14c0 (X : XT) (L : LoopI) (x : (ByteArray) × Unit) : M (Value) :=
 M.new (.iter x.1 0) fun b2_ =>
 M.bind (L (σ := Unit) (ρ := (Unit) ⊕ (((Bool) × Unit) ⊕ (Unit))) (fun s3_ =>
 M.next b2_
 (M.pure (.inr (.inl (())))) fun i4_ c5_ =>
 M.join (fun (j6_ : (Bool) × Unit) =>
 M.ite j6_.1
 (M.pure (.inr (.inr (.inl (false, ())))))
 (M.pure (.inl (())))) fun go7_ =>
 M.ite (eqB c5_ 47)
 (go7_ (true, ()))
 (M.ite (ltB c5_ 32)
 (go7_ (true, ()))
 (go7_ ((eqB c5_ 127), ())))) (())) <| M.sum (fun (j11_ : Unit) =>
 M.pure (.bool true)) (M.sum (fun (j12_ : (Bool) × Unit) =>
 M.pure (.bool j12_.1)) (fun _ => M.stuck))
def f14 (X : XT) (L : LoopI) (x : (ByteArray) × Unit) : M Value :=
 M.join (fun (j0_ : (Bool) × Unit) =>
 M.ite j0_.1
 (M.pure (.bool false))
 (f14c0 X L x)) fun go1_ =>
 M.ite (ltB ((x.1.size : Nat) : Int) 1)
 (go1_ (true, ()))
 (M.ite (ltB 24 ((x.1.size : Nat) : Int))
 (go1_ (true, ()))
 (M.callS (.one (.cell .bool)) (X (.call 25 [(.string x.1)])) fun (r17_ : Bool) =>
 M.ite (!r17_)
 (go1_ (true, ()))
 (M.ite (seq x.1 st13)
 (go1_ (true, ()))
 (go1_ ((seq x.1 st14), ())))))

theorem e14 (X : XT) (L : LoopI) (x : (ByteArray) × Unit) : evBody CC { call := X, loop := L } 14 (shsInj [(.cell .string)] x) = f14 X L x := by kernel_rfl

/-- strings.HasPrefix -/
def f15 (X : XT) (L : LoopI) (x : (ByteArray) × (ByteArray) × Unit) : M Value :=
 M.callS (.one (.cell .bool)) (X (.call 26 [(.string x.1), (.string x.2.1)])) fun (r0_ : Bool) =>
 M.pure (.bool r0_)

theorem e15 (X : XT) (L : LoopI) (x : (ByteArray) × (ByteArray) × Unit) : evBody CC { call := X, loop := L } 15 (shsInj [(.cell .string), (.cell .string)] x) = f15 X L x := by kernel_rfl

/-- hayrick/path.cut -/
def f16c0 (X : XT) (L : LoopI) (x : (ByteArray) × Unit) (b0_ : Nat) (s1_ : (SL) × (Int) × Unit) : M (((SL) × (Int) × Unit) ⊕ (((SL) × (Int) × Unit) ⊕ (Unit))) :=
 M.next b0_
 (M.pure (.inr (.inl (s1_.1, s1_.2.1, ())))) fun i2_ c3_ =>
 M.join (fun (j4_ : (SL) × (Int) × Unit) =>
 M.pure (.inl (j4_.1, j4_.2.1, ()))) fun go5_ =>
 M.ite (eqB c3_ 47)
 (M.guard (upB i2_ x.1.size)
 (let v7_ : Nat := (Int.toNat i2_)
 M.guard (upB s1_.2.1 v7_)
 (M.new (.cells (Row.ofList [(.string (x.1.extract (Int.toNat s1_.2.1) v7_))]) 9 false (0, 0) false) fun b10_ =>
 M.append 9 1 16 s1_.1.1 s1_.1.2.1 s1_.1.2.2 (.slice (some (Addr.mk b10_ 0 none)) 1 1) fun a11_ n12_ c13_ =>
 go5_ ((a11_, n12_, c13_), (addW .i64 i2_ 1), ()))))
 (go5_ (s1_.1, s1_.2.1, ()))
def f16c1 (X : XT) (L : LoopI) (x : (ByteArray) × Unit) : M (Value) :=
 M.new (.iter x.1 0) fun b0_ =>
 M.bind (L (σ := (SL) × (Int) × Unit) (ρ := ((SL) × (Int) × Unit) ⊕ (Unit)) (fun s1_ =>
 f16c0 X L x b0_ s1_) ((none, 0, 0), 0, ())) <| M.sum (fun (j15_ : (SL) × (Int) × Unit) =>
 M.guard (upB j15_.2.1 x.1.size)
 (M.new (.cells (Row.ofList [(.string (x.1.extract (Int.toNat j15_.2.1) x.1.size))]) 9 false (0, 0) false) fun b18_ =>
 M.append 9 1 16 j15_.1.1 j15_.1.2.1 j15_.1.2.2 (.slice (some (Addr.mk b18_ 0 none)) 1 1) fun a19_ n20_ c21_ =>
 M.pure (.slice a19_ n20_ c21_))) (fun _ => M.stuck)
def f16 (X : XT) (L : LoopI) (x : (ByteArray) × Unit) : M Value :=
 f16c1 X L x

theorem e16 (X : XT) (L : LoopI) (x : (ByteArray) × Unit) : evBody CC { call := X, loop := L } 16 (shsInj [(.cell .string)] x) = f16 X L x := by kernel_rfl

/-- slices.Contains[[]string,string] -/
def f17 (X : XT) (L : LoopI) (x : (SL) × (ByteArray) × Unit) : M Value :=
 M.callS (.one (.cell (.int .i64))) (X (.call 27 [(.slice x.1.1 x.1.2.1 x.1.2.2), (.string x.2.1)])) fun (r0_ : Int) =>
 M.pure (.bool (leB 0 r0_))

theorem e17 (X : XT) (L : LoopI) (x : (SL) × (ByteArray) × Unit) : evBody CC { call := X, loop := L } 17 (shsInj [(.cell .slice), (.cell .string)] x) = f17 X L x := by kernel_rfl

/-- hayrick/hayrickref10.Valid -/
def f18c0 (X : XT) (L : LoopI) (x : (ByteArray) × Unit) : M (Value) :=
 M.bind (L (σ := (Int) × Unit) (ρ := (Unit) ⊕ (((Bool) × Unit) ⊕ (Unit))) (fun s2_ =>
 M.ite (ltB s2_.1 ((x.1.size : Nat) : Int))
 (M.join (fun (j5_ : (Bool) × Unit) =>
 M.ite j5_.1
 (M.pure (.inr (.inr (.inl (false, ())))))
 (M.pure (.inl ((addW .i64 s2_.1 1), ())))) fun go6_ =>
 M.guard (inB s2_.1 x.1.size)
 (M.ite (eqB (byteAt x.1 s2_.1) 47)
 (go6_ (true, ()))
 (M.guard (inB s2_.1 x.1.size)
 (M.ite (ltB (byteAt x.1 s2_.1) 32)
 (go6_ (true, ()))
 (M.guard (inB s2_.1 x.1.size)
 (go6_ ((eqB (byteAt x.1 s2_.1) 127), ())))))))
 (M.pure (.inr (.inl (()))))) (0, ())) <| M.sum (fun (j14_ : Unit) =>
 M.pure (.bool true)) (M.sum (fun (j15_ : (Bool) × Unit) =>
 M.pure (.bool j15_.1)) (fun _ => M.stuck))
def f18 (X : XT) (L : LoopI) (x : (ByteArray) × Unit) : M Value :=
 M.join (fun (j0_ : (Bool) × Unit) =>
 M.ite j0_.1
 (M.pure (.bool false))
 (f18c0 X L x)) fun go1_ =>
 M.ite (eqB ((x.1.size : Nat) : Int) 0)
 (go1_ (true, ()))
 (M.ite (ltB 24 ((x.1.size : Nat) : Int))
 (go1_ (true, ()))
 (M.callS (.one (.cell .bool)) (X (.call 28 [(.string x.1)])) fun (r20_ : Bool) =>
 M.ite (!r20_)
 (go1_ (true, ()))
 (M.ite (seq x.1 st13)
 (go1_ (true, ()))
 (go1_ ((seq x.1 st14), ())))))

theorem e18 (X : XT) (L : LoopI) (x : (ByteArray) × Unit) : evBody CC { call := X, loop := L } 18 (shsInj [(.cell .string)] x) = f18 X L x := by kernel_rfl

/-- hayrick/path.written -/
def f19c0 (X : XT) (L : LoopI) (x : (SL) × Unit) (b0_ : Nat) (v1_ : Int) : M (Value) :=
 M.bind (L (σ := (Int) × Unit) (ρ := (Unit) ⊕ (Unit)) (fun s2_ =>
 M.ite (ltB s2_.1 v1_)
 (M.guard (inB s2_.1 x.1.2.1)
 (M.deref x.1.1 fun a4_ =>
 M.load (.cell .string) 1 (a4_.add ((Int.toNat s2_.1) * 1)) fun (x5_ : ByteArray) =>
 M.guard (Nat.ble (st1.size + x5_.size) 9223372036854775807)
 (M.callS (.tuple [(.cell (.int .i64)), (.cell .val)]) (X (.call 29 [(.pointer (some (Addr.mk b0_ 0 none))), (.string (st1 ++ x5_))])) fun (r7_ : (Int) × (Value) × Unit) =>
 M.pure (.inl ((addW .i64 s2_.1 1), ())))))
 (M.pure (.inr (.inl (()))))) (0, ())) <| M.sum (fun (j9_ : Unit) =>
 M.callS (.one (.cell .string)) (X (.call 30 [(.pointer (some (Addr.mk b0_ 0 none)))])) fun (r10_ : ByteArray) =>
 M.pure (.string r10_)) (fun _ => M.stuck)
def f19 (X : XT) (L : LoopI) (x : (SL) × Unit) : M Value :=
 M.new (.cells (Row.ofList [(.pointer none), (.slice none 0 0)]) 63 false (0, 0) false) fun b0_ =>
 f19c0 X L x b0_ ((x.1.2.1 : Nat) : Int)

theorem e19 (X : XT) (L : LoopI) (x : (SL) × Unit) : evBody CC { call := X, loop := L } 19 (shsInj [(.cell .slice)] x) = f19 X L x := by kernel_rfl

/-- slices.Equal[[]string,string] -/
def f20c0 (X : XT) (L : LoopI) (x : (SL) × (SL) × Unit) (v3_ : Int) : M (Value) :=
 M.bind (L (σ := (Int) × Unit) (ρ := (Unit) ⊕ (((Bool) × Unit) ⊕ (Unit))) (fun s4_ =>
 M.ite (ltB s4_.1 v3_)
 (M.guard (inB s4_.1 x.1.2.1)
 (M.deref x.1.1 fun a6_ =>
 M.load (.cell .string) 1 (a6_.add ((Int.toNat s4_.1) * 1)) fun (x7_ : ByteArray) =>
 M.guard (inB s4_.1 x.2.1.2.1)
 (M.deref x.2.1.1 fun a8_ =>
 M.load (.cell .string) 1 (a8_.add ((Int.toNat s4_.1) * 1)) fun (x9_ : ByteArray) =>
 M.ite (!(seq x7_ x9_))
 (M.pure (.inr (.inr (.inl (false, ())))))
 (M.pure (.inl ((addW .i64 s4_.1 1), ()))))))
 (M.pure (.inr (.inl (()))))) (0, ())) <| M.sum (fun (j12_ : Unit) =>
 M.pure (.bool true)) (M.sum (fun (j13_ : (Bool) × Unit) =>
 M.pure (.bool j13_.1)) (fun _ => M.stuck))
def f20 (X : XT) (L : LoopI) (x : (SL) × (SL) × Unit) : M Value :=
 M.ite (!(eqB ((x.1.2.1 : Nat) : Int) ((x.2.1.2.1 : Nat) : Int)))
 (M.pure (.bool false))
 (f20c0 X L x ((x.1.2.1 : Nat) : Int))

theorem e20 (X : XT) (L : LoopI) (x : (SL) × (SL) × Unit) : evBody CC { call := X, loop := L } 20 (shsInj [(.cell .slice), (.cell .slice)] x) = f20 X L x := by kernel_rfl

/-- hayrick/hayricklaw22.tree -/
def f21c0 (X : XT) (L : LoopI) (r0_ : (PA) × (PA) × (PA) × (PA) × Unit) (go6_ : (Unit) → M (((Int) × Unit) ⊕ ((Unit) ⊕ (Unit)))) (x16_ : Int × Int × Int × Int × Int × Int × Int × Int × Int × Int × Int × Unit) (b17_ : Nat) : M (((Int) × Unit) ⊕ ((Unit) ⊕ (Unit))) :=
 M.mark (Addr.mk b17_ 0 none)
 (M.callS (.one (.cell (.int .i64))) (X (.call 33 [(.pointer r0_.2.1), (.agg ⟨[(.int .i64 x16_.1), (.int .i64 x16_.2.1), (.int .i64 x16_.2.2.1), (.int .i64 x16_.2.2.2.1), (.int .u32 x16_.2.2.2.2.1), (.int .u32 x16_.2.2.2.2.2.1), (.int .u32 x16_.2.2.2.2.2.2.1), (.int .u32 x16_.2.2.2.2.2.2.2.1), (.int .u32 x16_.2.2.2.2.2.2.2.2.1), (.int .u32 x16_.2.2.2.2.2.2.2.2.2.1), (.int .u32 x16_.2.2.2.2.2.2.2.2.2.2.1)]⟩), (.slice (some (Addr.mk b17_ 0 none)) 1 1), (.bool true)])) fun (r18_ : Int) =>
 go6_ (()))
def f21c1 (X : XT) (L : LoopI) (r0_ : (PA) × (PA) × (PA) × (PA) × Unit) (go6_ : (Unit) → M (((Int) × Unit) ⊕ ((Unit) ⊕ (Unit)))) (b12_ : Nat) (x13_ : Int × Int × Int × Int × Int × Int × Int × Int × Int × Int × Int × Unit) (b14_ : Nat) : M (((Int) × Unit) ⊕ ((Unit) ⊕ (Unit))) :=
 M.callS (.one (.cell (.int .i64))) (X (.call 32 [(.pointer r0_.1), (.agg ⟨[(.int .i64 x13_.1), (.int .i64 x13_.2.1), (.int .i64 x13_.2.2.1), (.int .i64 x13_.2.2.2.1), (.int .u32 x13_.2.2.2.2.1), (.int .u32 x13_.2.2.2.2.2.1), (.int .u32 x13_.2.2.2.2.2.2.1), (.int .u32 x13_.2.2.2.2.2.2.2.1), (.int .u32 x13_.2.2.2.2.2.2.2.2.1), (.int .u32 x13_.2.2.2.2.2.2.2.2.2.1), (.int .u32 x13_.2.2.2.2.2.2.2.2.2.2.1)]⟩), (.slice (some (Addr.mk b14_ 0 none)) 1 1), (.bool true)])) fun (r15_ : Int) =>
 M.load (.agg [(.int .i64), (.int .i64), (.int .i64), (.int .i64), (.int .u32), (.int .u32), (.int .u32), (.int .u32), (.int .u32), (.int .u32), (.int .u32)]) 11 (Addr.mk b12_ 0 none) fun (x16_ : Int × Int × Int × Int × Int × Int × Int × Int × Int × Int × Int × Unit) =>
 M.new (.cells (Row.ofList [(.int .u8 120)]) 5 false (0, 0) false) fun b17_ =>
 f21c0 X L r0_ go6_ x16_ b17_
def f21c2 (X : XT) (L : LoopI) (r0_ : (PA) × (PA) × (PA) × (PA) × Unit) (go6_ : (Unit) → M (((Int) × Unit) ⊕ ((Unit) ⊕ (Unit)))) (x11_ : Int) (b12_ : Nat) : M (((Int) × Unit) ⊕ ((Unit) ⊕ (Unit))) :=
 M.store (Addr.mk b12_ 0 none) [(.int .i64 x11_), (.int .i64 1), (.int .i64 0), (.int .i64 1), (.int .u32 0), (.int .u32 0), (.int .u32 0), (.int .u32 0), (.int .u32 0), (.int .u32 0), (.int .u32 0)]
 (M.load (.agg [(.int .i64), (.int .i64), (.int .i64), (.int .i64), (.int .u32), (.int .u32), (.int .u32), (.int .u32), (.int .u32), (.int .u32), (.int .u32)]) 11 (Addr.mk b12_ 0 none) fun (x13_ : Int × Int × Int × Int × Int × Int × Int × Int × Int × Int × Int × Unit) =>
 M.new (.cells (Row.ofList [(.int .u8 120)]) 5 false (0, 0) false) fun b14_ =>
 M.mark (Addr.mk b14_ 0 none)
 (f21c1 X L r0_ go6_ b12_ x13_ b14_))
def f21c3 (X : XT) (L : LoopI) (x : (SL) × Unit) (r0_ : (PA) × (PA) × (PA) × (PA) × Unit) (s2_ : (Int) × Unit) (go6_ : (Unit) → M (((Int) × Unit) ⊕ ((Unit) ⊕ (Unit)))) (x20_ : Int) (x22_ : SL) : M (((Int) × Unit) ⊕ ((Unit) ⊕ (Unit))) :=
 M.callS (.one (.cell (.int .i64))) (X (.call 34 [(.pointer r0_.1), (.int .i64 x20_), (.slice x22_.1 x22_.2.1 x22_.2.2), (.bool true)])) fun (r23_ : Int) =>
 M.guard (inB s2_.1 x.1.2.1)
 (M.deref x.1.1 fun a24_ =>
 M.load (.cell (.int .i64)) 1 ((a24_.add ((Int.toNat s2_.1) * 3)).add 0) fun (x25_ : Int) =>
 M.guard (inB s2_.1 x.1.2.1)
 (M.deref x.1.1 fun a26_ =>
 M.load (.cell .slice) 1 ((a26_.add ((Int.toNat s2_.1) * 3)).add 2) fun (x27_ : SL) =>
 M.callS (.one (.cell (.int .i64))) (X (.call 35 [(.pointer r0_.2.1), (.int .i64 x25_), (.slice x27_.1 x27_.2.1 x27_.2.2), (.bool true)])) fun (r28_ : Int) =>
 go6_ (())))
def f21c4 (X : XT) (L : LoopI) (x : (SL) × Unit) (r0_ : (PA) × (PA) × (PA) × (PA) × Unit) (s2_ : (Int) × Unit) (go6_ : (Unit) → M (((Int) × Unit) ⊕ ((Unit) ⊕ (Unit)))) (x9_ : Bool) : M (((Int) × Unit) ⊕ ((Unit) ⊕ (Unit))) :=
 M.ite x9_
 (M.guard (inB s2_.1 x.1.2.1)
 (M.deref x.1.1 fun a10_ =>
 M.load (.cell (.int .i64)) 1 ((a10_.add ((Int.toNat s2_.1) * 3)).add 0) fun (x11_ : Int) =>
 M.new (.cells (Row.ofList [(.int .i64 0), (.int .i64 0), (.int .i64 0), (.int .i64 0), (.int .u32 0), (.int .u32 0), (.int .u32 0), (.int .u32 0), (.int .u32 0), (.int .u32 0), (.int .u32 0)]) 76 false (0, 0) false) fun b12_ =>
 f21c2 X L r0_ go6_ x11_ b12_))
 (M.guard (inB s2_.1 x.1.2.1)
 (M.deref x.1.1 fun a19_ =>
 M.load (.cell (.int .i64)) 1 ((a19_.add ((Int.toNat s2_.1) * 3)).add 0) fun (x20_ : Int) =>
 M.guard (inB s2_.1 x.1.2.1)
 (M.deref x.1.1 fun a21_ =>
 M.load (.cell .slice) 1 ((a21_.add ((Int.toNat s2_.1) * 3)).add 2) fun (x22_ : SL) =>
 f21c3 X L x r0_ s2_ go6_ x20_ x22_)))
def f21c5 (X : XT) (L : LoopI) (x : (SL) × Unit) (r0_ : (PA) × (PA) × (PA) × (PA) × Unit) : M (Value) :=
 M.bind (L (σ := (Int) × Unit) (ρ := (Unit) ⊕ (Unit)) (fun s2_ =>
 M.join (fun (j3_ : (Bool) × Unit) =>
 M.ite j3_.1
 (M.join (fun (j5_ : Unit) =>
 M.pure (.inl ((addW .i64 s2_.1 1), ()))) fun go6_ =>
 M.guard (inB s2_.1 x.1.2.1)
 (M.deref x.1.1 fun a8_ =>
 M.load (.cell .bool) 1 ((a8_.add ((Int.toNat s2_.1) * 3)).add 1) fun (x9_ : Bool) =>
 f21c4 X L x r0_ s2_ go6_ x9_))
 (M.pure (.inr (.inl (()))))) fun go4_ =>
 M.ite (ltB s2_.1 ((x.1.2.1 : Nat) : Int))
 (go4_ ((ltB s2_.1 30), ()))
 (go4_ (false, ()))) (0, ())) <| M.sum (fun (j32_ : Unit) =>
 M.pure (.tuple ⟨[(.pointer r0_.1), (.pointer r0_.2.1)]⟩)) (fun _ => M.stuck)
def f21 (X : XT) (L : LoopI) (x : (SL) × Unit) : M Value :=
 M.callS (.tuple [(.cell .ptr), (.cell .ptr), (.cell .ptr), (.cell .ptr)]) (X (.call 31 [(.int .i64 4), (.int .i64 1), (.int .i64 128)])) fun (r0_ : (PA) × (PA) × (PA) × (PA) × Unit) =>
 M.eqPtr r0_.1 none fun (q1_ : Bool) =>
 M.ite q1_
 (M.pure (.tuple ⟨[(.pointer none), (.pointer none)]⟩))
 (f21c5 X L x r0_)

theorem e21 (X : XT) (L : LoopI) (x : (SL) × Unit) : evBody CC { call := X, loop := L } 21 (shsInj [(.cell .slice)] x) = f21 X L x := by kernel_rfl

/-- hayrick/path.Walk -/
def f22c0 (X : XT) (L : LoopI) (x : (PA) × (SL) × Unit) (s4_ : (SL) × (Int) × Unit) (x7_ : ByteArray) (a8_ : Addr) : M (((SL) × (Int) × Unit) ⊕ (((SL) × Unit) ⊕ (((SL) × (Int) × Unit) ⊕ (Unit)))) :=
 M.load (.cell (.int .i64)) 1 (a8_.add ((Int.toNat s4_.2.1) * 1)) fun (x9_ : Int) =>
 M.callS (.tuple [(.cell (.int .i64)), (.cell (.int .i64))]) (X (.call 37 [(.pointer x.1), (.int .i64 x9_), (.string x7_)])) fun (r10_ : (Int) × (Int) × Unit) =>
 M.ite (!(eqB r10_.2.1 0))
 (M.pure (.inr (.inr (.inl ((none, 0, 0), r10_.2.1, ())))))
 (M.new (.cells (Row.ofList [(.int .i64 r10_.1)]) 3 false (0, 0) false) fun b12_ =>
 M.append 3 1 8 s4_.1.1 s4_.1.2.1 s4_.1.2.2 (.slice (some (Addr.mk b12_ 0 none)) 1 1) fun a13_ n14_ c15_ =>
 M.pure (.inl ((a13_, n14_, c15_), (addW .i64 s4_.2.1 1), ())))
def f22c1 (X : XT) (L : LoopI) (x : (PA) × (SL) × Unit) (b2_ : Nat) (v3_ : Int) : M (Value) :=
 M.bind (L (σ := (SL) × (Int) × Unit) (ρ := ((SL) × Unit) ⊕ (((SL) × (Int) × Unit) ⊕ (Unit))) (fun s4_ =>
 M.ite (ltB s4_.2.1 v3_)
 (M.guard (inB s4_.2.1 x.2.1.2.1)
 (M.deref x.2.1.1 fun a6_ =>
 M.load (.cell .string) 1 (a6_.add ((Int.toNat s4_.2.1) * 1)) fun (x7_ : ByteArray) =>
 M.guard (inB s4_.2.1 s4_.1.2.1)
 (M.deref s4_.1.1 fun a8_ =>
 f22c0 X L x s4_ x7_ a8_)))
 (M.pure (.inr (.inl (s4_.1, ()))))) (((some (Addr.mk b2_ 0 none)), 1, 1), 0, ())) <| M.sum (fun (j17_ : (SL) × Unit) =>
 M.pure (.tuple ⟨[(.slice j17_.1.1 j17_.1.2.1 j17_.1.2.2), (.int .i64 0)]⟩)) (M.sum (fun (j18_ : (SL) × (Int) × Unit) =>
 M.pure (.tuple ⟨[(.slice j18_.1.1 j18_.1.2.1 j18_.1.2.2), (.int .i64 j18_.2.1)]⟩)) (fun _ => M.stuck))
def f22 (X : XT) (L : LoopI) (x : (PA) × (SL) × Unit) : M Value :=
 M.join (fun (j0_ : (Bool) × Unit) =>
 M.ite j0_.1
 (M.pure (.tuple ⟨[(.slice none 0 0), (.int .i64 2)]⟩))
 (M.new (.cells (Row.ofList [(.int .i64 1)]) 3 false (0, 0) false) fun b2_ =>
 f22c1 X L x b2_ ((x.2.1.2.1 : Nat) : Int))) fun go1_ =>
 M.eqPtr x.1 none fun (q19_ : Bool) =>
 M.ite q19_
 (go1_ (true, ()))
 (M.callS (.one (.cell .ptr)) (X (.call 36 [(.pointer x.1)])) fun (r20_ : PA) =>
 M.eqPtr r20_ none fun (q21_ : Bool) =>
 go1_ (q21_, ()))

theorem e22 (X : XT) (L : LoopI) (x : (PA) × (SL) × Unit) : evBody CC { call := X, loop := L } 22 (shsInj [(.cell .ptr), (.cell .slice)] x) = f22 X L x := by kernel_rfl

/-- hayrick/path.Find -/
def f23c0 (X : XT) (L : LoopI) (x : (PA) × (ByteArray) × Unit) (r2_ : (SL) × (Int) × Unit) (v3_ : Bool) : M (Value) :=
 M.ite v3_
 (M.pure (.tuple ⟨[(.int .i64 0), (.int .i64 r2_.2.1)]⟩))
 (M.callS (.tuple [(.cell .slice), (.cell (.int .i64))]) (X (.call 22 [(.pointer x.1), (.slice r2_.1.1 r2_.1.2.1 r2_.1.2.2)])) fun (r4_ : (SL) × (Int) × Unit) =>
 M.ite (!(eqB r4_.2.1 0))
 (M.pure (.tuple ⟨[(.int .i64 0), (.int .i64 r4_.2.1)]⟩))
 (let v7_ : Int := subW .i64 ((r4_.1.2.1 : Nat) : Int) 1
 M.guard (inB v7_ r4_.1.2.1)
 (M.deref r4_.1.1 fun a8_ =>
 M.load (.cell (.int .i64)) 1 (a8_.add ((Int.toNat v7_) * 1)) fun (x9_ : Int) =>
 M.pure (.tuple ⟨[(.int .i64 x9_), (.int .i64 0)]⟩))))
def f23 (X : XT) (L : LoopI) (x : (PA) × (ByteArray) × Unit) : M Value :=
 M.join (fun (j0_ : (Bool) × Unit) =>
 M.ite j0_.1
 (M.pure (.tuple ⟨[(.int .i64 0), (.int .i64 2)]⟩))
 (M.callS (.tuple [(.cell .slice), (.cell (.int .i64))]) (X (.call 6 [(.string x.2.1)])) fun (r2_ : (SL) × (Int) × Unit) =>
 f23c0 X L x r2_ (!(eqB r2_.2.1 0)))) fun go1_ =>
 M.eqPtr x.1 none fun (q10_ : Bool) =>
 M.ite q10_
 (go1_ (true, ()))
 (M.callS (.one (.cell .ptr)) (X (.call 36 [(.pointer x.1)])) fun (r11_ : PA) =>
 M.eqPtr r11_ none fun (q12_ : Bool) =>
 go1_ (q12_, ()))

theorem e23 (X : XT) (L : LoopI) (x : (PA) × (ByteArray) × Unit) : evBody CC { call := X, loop := L } 23 (shsInj [(.cell .ptr), (.cell .string)] x) = f23 X L x := by kernel_rfl

/-- hayrick/path.Parent -/
def f24c0 (X : XT) (L : LoopI) (r2_ : (SL) × (Int) × Unit) (v7_ : Int) (r9_ : (SL) × (Int) × Unit) (r13_ : (Int) × (Int) × Unit) (v14_ : Bool) : M (Value) :=
 M.ite v14_
 (M.pure (.tuple ⟨[(.int .i64 0), (.string st0), (.int .i64 r13_.2.1)]⟩))
 (M.guard (inB v7_ r9_.1.2.1)
 (M.deref r9_.1.1 fun a15_ =>
 M.load (.cell (.int .i64)) 1 (a15_.add ((Int.toNat v7_) * 1)) fun (x16_ : Int) =>
 M.guard (inB v7_ r2_.1.2.1)
 (M.deref r2_.1.1 fun a17_ =>
 M.load (.cell .string) 1 (a17_.add ((Int.toNat v7_) * 1)) fun (x18_ : ByteArray) =>
 M.load (.cell .string) 1 (a17_.add ((Int.toNat v7_) * 1)) fun (x19_ : ByteArray) => cond (veqv (.string x19_) (.string x18_)) (M.pure (.tuple ⟨[(.int .i64 x16_), (.string x18_), (.int .i64 0)]⟩)) M.stuck)))
def f24c1 (X : XT) (L : LoopI) (x : (PA) × (ByteArray) × Unit) (r2_ : (SL) × (Int) × Unit) (v7_ : Int) (v8_ : Nat) : M (Value) :=
 M.callS (.tuple [(.cell .slice), (.cell (.int .i64))]) (X (.call 22 [(.pointer x.1), (.slice (r2_.1.1.map (·.add (0 * 1))) (v8_ - 0) (r2_.1.2.2 - 0))])) fun (r9_ : (SL) × (Int) × Unit) =>
 M.ite (!(eqB r9_.2.1 0))
 (M.pure (.tuple ⟨[(.int .i64 0), (.string st0), (.int .i64 r9_.2.1)]⟩))
 (M.guard (inB v7_ r9_.1.2.1)
 (M.deref r9_.1.1 fun a11_ =>
 M.load (.cell (.int .i64)) 1 (a11_.add ((Int.toNat v7_) * 1)) fun (x12_ : Int) =>
 M.callS (.tuple [(.cell (.int .i64)), (.cell (.int .i64))]) (X (.call 38 [(.pointer x.1), (.int .i64 x12_)])) fun (r13_ : (Int) × (Int) × Unit) =>
 f24c0 X L r2_ v7_ r9_ r13_ (!(eqB r13_.2.1 0))))
def f24c2 (X : XT) (L : LoopI) (x : (PA) × (ByteArray) × Unit) : M (Value) :=
 M.callS (.tuple [(.cell .slice), (.cell (.int .i64))]) (X (.call 6 [(.string x.2.1)])) fun (r2_ : (SL) × (Int) × Unit) =>
 M.join (fun (j3_ : (Int) × Unit) =>
 M.ite (!(eqB j3_.1 0))
 (M.pure (.tuple ⟨[(.int .i64 0), (.string st0), (.int .i64 j3_.1)]⟩))
 (let v7_ : Int := subW .i64 ((r2_.1.2.1 : Nat) : Int) 1
 M.guard (upB v7_ r2_.1.2.2)
 (f24c1 X L x r2_ v7_ (Int.toNat v7_)))) fun go4_ =>
 M.join (fun (j20_ : (Bool) × Unit) =>
 M.ite j20_.1
 (go4_ (30, ()))
 (go4_ (r2_.2.1, ()))) fun go21_ =>
 M.ite (eqB r2_.2.1 0)
 (go21_ ((eqB ((r2_.1.2.1 : Nat) : Int) 0), ()))
 (go21_ (false, ()))
def f24 (X : XT) (L : LoopI) (x : (PA) × (ByteArray) × Unit) : M Value :=
 M.join (fun (j0_ : (Bool) × Unit) =>
 M.ite j0_.1
 (M.pure (.tuple ⟨[(.int .i64 0), (.string st0), (.int .i64 2)]⟩))
 (f24c2 X L x)) fun go1_ =>
 M.eqPtr x.1 none fun (q25_ : Bool) =>
 M.ite q25_
 (go1_ (true, ()))
 (M.callS (.one (.cell .ptr)) (X (.call 36 [(.pointer x.1)])) fun (r26_ : PA) =>
 M.eqPtr r26_ none fun (q27_ : Bool) =>
 go1_ (q27_, ()))

theorem e24 (X : XT) (L : LoopI) (x : (PA) × (ByteArray) × Unit) : evBody CC { call := X, loop := L } 24 (shsInj [(.cell .ptr), (.cell .string)] x) = f24 X L x := by kernel_rfl

/-- hayrick/names.Whole -/
def f25c0 (X : XT) (L : LoopI) (x : (ByteArray) × Unit) (b0_ : Nat) : M (Value) :=
 M.bind (L (σ := Unit) (ρ := (Unit) ⊕ (((Bool) × Unit) ⊕ (Unit))) (fun s1_ =>
 M.next b0_
 (M.pure (.inr (.inl (())))) fun i2_ c3_ =>
 M.guard (upB i2_ x.1.size)
 (M.callS (.tuple [(.cell (.int .i32)), (.cell (.int .i64))]) (X (.call 39 [(.string (x.1.extract (Int.toNat i2_) x.1.size))])) fun (r6_ : (Int) × (Int) × Unit) =>
 M.join (fun (j7_ : (Bool) × Unit) =>
 M.ite j7_.1
 (M.pure (.inr (.inr (.inl (false, ())))))
 (M.pure (.inl (())))) fun go8_ =>
 M.ite (eqB c3_ 65533)
 (go8_ ((eqB r6_.2.1 1), ()))
 (go8_ (false, ())))) (())) <| M.sum (fun (j11_ : Unit) =>
 M.pure (.bool true)) (M.sum (fun (j12_ : (Bool) × Unit) =>
 M.pure (.bool j12_.1)) (fun _ => M.stuck))
def f25 (X : XT) (L : LoopI) (x : (ByteArray) × Unit) : M Value :=
 M.new (.iter x.1 0) fun b0_ =>
 f25c0 X L x b0_

theorem e25 (X : XT) (L : LoopI) (x : (ByteArray) × Unit) : evBody CC { call := X, loop := L } 25 (shsInj [(.cell .string)] x) = f25 X L x := by kernel_rfl

/-- internal/stringslite.HasPrefix -/
def f26 (X : XT) (L : LoopI) (x : (ByteArray) × (ByteArray) × Unit) : M Value :=
 M.join (fun (j0_ : (Bool) × Unit) =>
 M.pure (.bool j0_.1)) fun go1_ =>
 M.ite (leB ((x.2.1.size : Nat) : Int) ((x.1.size : Nat) : Int))
 (let v5_ : Int := ((x.2.1.size : Nat) : Int)
 M.guard (upB v5_ x.1.size)
 (go1_ ((seq (x.1.extract 0 (Int.toNat v5_)) x.2.1), ())))
 (go1_ (false, ()))

theorem e26 (X : XT) (L : LoopI) (x : (ByteArray) × (ByteArray) × Unit) : evBody CC { call := X, loop := L } 26 (shsInj [(.cell .string), (.cell .string)] x) = f26 X L x := by kernel_rfl

/-- slices.Index[[]string,string] -/
def f27c0 (X : XT) (L : LoopI) (x : (SL) × (ByteArray) × Unit) (v0_ : Int) : M (Value) :=
 M.bind (L (σ := (Int) × Unit) (ρ := (Unit) ⊕ (((Int) × Unit) ⊕ (Unit))) (fun s1_ =>
 M.ite (ltB s1_.1 v0_)
 (M.guard (inB s1_.1 x.1.2.1)
 (M.deref x.1.1 fun a3_ =>
 M.load (.cell .string) 1 (a3_.add ((Int.toNat s1_.1) * 1)) fun (x4_ : ByteArray) =>
 M.ite (seq x.2.1 x4_)
 (M.pure (.inr (.inr (.inl (s1_.1, ())))))
 (M.pure (.inl ((addW .i64 s1_.1 1), ())))))
 (M.pure (.inr (.inl (()))))) (0, ())) <| M.sum (fun (j7_ : Unit) =>
 M.pure (.int .i64 (-1))) (M.sum (fun (j8_ : (Int) × Unit) =>
 M.pure (.int .i64 j8_.1)) (fun _ => M.stuck))
def f27 (X : XT) (L : LoopI) (x : (SL) × (ByteArray) × Unit) : M Value :=
 f27c0 X L x ((x.1.2.1 : Nat) : Int)

theorem e27 (X : XT) (L : LoopI) (x : (SL) × (ByteArray) × Unit) : evBody CC { call := X, loop := L } 27 (shsInj [(.cell .slice), (.cell .string)] x) = f27 X L x := by kernel_rfl

/-- hayrick/hayrickref10.Whole -/
def f28c0 (X : XT) (L : LoopI) (x : (ByteArray) × Unit) : M (Value) :=
 M.bind (L (σ := (Int) × Unit) (ρ := (Unit) ⊕ (((Bool) × Unit) ⊕ (Unit))) (fun s0_ =>
 M.ite (ltB s0_.1 ((x.1.size : Nat) : Int))
 (M.guard (upB s0_.1 x.1.size)
 (M.callS (.tuple [(.cell (.int .i32)), (.cell (.int .i64)), (.cell .bool)]) (X (.call 40 [(.string (x.1.extract (Int.toNat s0_.1) x.1.size))])) fun (r5_ : (Int) × (Int) × (Bool) × Unit) =>
 M.ite r5_.2.2.1
 (M.pure (.inr (.inr (.inl (false, ())))))
 (M.pure (.inl ((addW .i64 s0_.1 r5_.2.1), ())))))
 (M.pure (.inr (.inl (()))))) (0, ())) <| M.sum (fun (j7_ : Unit) =>
 M.pure (.bool true)) (M.sum (fun (j8_ : (Bool) × Unit) =>
 M.pure (.bool j8_.1)) (fun _ => M.stuck))
def f28 (X : XT) (L : LoopI) (x : (ByteArray) × Unit) : M Value :=
 f28c0 X L x

theorem e28 (X : XT) (L : LoopI) (x : (ByteArray) × Unit) : evBody CC { call := X, loop := L } 28 (shsInj [(.cell .string)] x) = f28 X L x := by kernel_rfl

/-- (*strings.Builder).WriteString -/
def f29 (X : XT) (L : LoopI) (x : (PA) × (ByteArray) × Unit) : M Value :=
 M.callS (.tuple []) (X (.call 41 [(.pointer x.1)])) fun (r0_ : Unit) =>
 M.deref x.1 fun a1_ =>
 M.load (.cell .slice) 1 (a1_.add 1) fun (x2_ : SL) =>
 M.append 5 1 1 x2_.1 x2_.2.1 x2_.2.2 (.string x.2.1) fun a3_ n4_ c5_ =>
 M.deref x.1 fun a6_ =>
 M.store (a6_.add 1) [(.slice a3_ n4_ c5_)]
 (M.pure (.tuple ⟨[(.int .i64 ((x.2.1.size : Nat) : Int)), .nilIface]⟩))

theorem e29 (X : XT) (L : LoopI) (x : (PA) × (ByteArray) × Unit) : evBody CC { call := X, loop := L } 29 (shsInj [(.cell .ptr), (.cell .string)] x) = f29 X L x := by kernel_rfl

/-- (*strings.Builder).String -/
def f30 (X : XT) (L : LoopI) (x : (PA) × Unit) : M Value :=
 M.deref x.1 fun a0_ =>
 M.load (.cell .slice) 1 (a0_.add 1) fun (x1_ : SL) =>
 M.deref x.1 fun a2_ =>
 M.load (.cell .slice) 1 (a2_.add 1) fun (x3_ : SL) =>
 aBuiltin PP .unsafeSliceData #[61] [(.slice x1_.1 x1_.2.1 x1_.2.2)] fun (w5_ : Value) =>
 M.load (.cell .slice) 1 (a2_.add 1) fun (x6_ : SL) => cond (veqv (.slice x6_.1 x6_.2.1 x6_.2.2) (.slice x3_.1 x3_.2.1 x3_.2.2)) (aBuiltin PP .unsafeString #[89, 3] [w5_, (.int .i64 ((x3_.2.1 : Nat) : Int))] fun (w7_ : Value) =>
 M.pure w7_) M.stuck

theorem e30 (X : XT) (L : LoopI) (x : (PA) × Unit) : evBody CC { call := X, loop := L } 30 (shsInj [(.cell .ptr)] x) = f30 X L x := by kernel_rfl

/-- hayrick/hayricklaw18.Made -/
def f31c0 (X : XT) (L : LoopI) (r0_ : (PA) × (PA) × (PA) × (PA) × Unit) (r2_ : (PA) × (Int) × Unit) : M (Value) :=
 M.new (.cells (Row.ofList [(.pointer r0_.2.1), (.int .u32 0), (.int .u32 0), (.int .u32 0), (.int .u32 0), (.int .u32 0), (.int .u32 0), (.int .u32 0), (.int .u32 0), (.int .u32 0), (.int .u32 0), (.int .u32 0), (.int .u32 0), (.int .u32 0), (.int .u32 0), (.int .u32 0), (.int .u32 0), (.int .u32 0), (.int .u32 0), (.int .u32 0), (.int .u32 0), (.int .u32 0), (.int .u32 0), (.int .u32 0), (.int .u32 0), (.int .u32 0), (.int .u32 0), (.int .u32 0), (.int .u32 0), (.int .u32 0), (.int .u32 0), (.int .u32 0), (.int .u32 0), (.int .u32 0), (.int .u32 0), (.int .u32 0), (.int .u32 0), (.int .u32 0), (.int .u32 0), (.int .u32 0), (.int .u32 0), (.int .u32 0), (.int .u32 0), (.int .u32 0), (.int .u32 0), (.int .u32 0), (.int .u32 0), (.int .u32 0), (.int .u32 0), (.int .u32 0), (.int .u32 0), (.int .u32 0), (.int .u32 0), (.int .u32 0), (.int .u32 0), (.int .u32 0), (.int .u32 0), (.int .u32 0), (.int .u32 0), (.int .u32 0), (.int .u32 0), (.int .u32 0), (.int .u32 0), (.int .u32 0), (.int .u32 0)]) 97 false (0, 0) false) fun b4_ =>
 M.pure (.tuple ⟨[(.pointer r2_.1), (.pointer (some (Addr.mk b4_ 0 none))), (.pointer r0_.2.2.1), (.pointer r0_.2.1)]⟩)
def f31c1 (X : XT) (L : LoopI) (r0_ : (PA) × (PA) × (PA) × (PA) × Unit) : M (Value) :=
 M.callS (.tuple [(.cell .ptr), (.cell (.int .i64))]) (X (.call 43 [(.pointer r0_.1), (.agg ⟨[(.int .u32 0), (.int .u32 0), (.int .u32 0), (.int .u32 0), (.int .u32 0), (.int .u32 0), (.int .u32 0), (.int .u32 0), (.int .u32 0), (.int .u32 0), (.int .u32 0), (.int .u32 0), (.int .u32 0), (.int .u32 0), (.int .u32 0), (.int .u32 0), (.int .u32 0), (.int .u32 0), (.int .u32 0), (.int .u32 0), (.int .u32 0), (.int .u32 0), (.int .u32 0), (.int .u32 0), (.int .u32 0), (.int .u32 0), (.int .u32 0), (.int .u32 0), (.int .u32 0), (.int .u32 0), (.int .u32 0), (.int .u32 0), (.int .u32 0), (.int .u32 0), (.int .u32 0), (.int .u32 0), (.int .u32 0), (.int .u32 0), (.int .u32 0), (.int .u32 0), (.int .u32 0), (.int .u32 0), (.int .u32 0), (.int .u32 0), (.int .u32 0), (.int .u32 0), (.int .u32 0), (.int .u32 0), (.int .u32 0), (.int .u32 0), (.int .u32 0), (.int .u32 0), (.int .u32 0), (.int .u32 0), (.int .u32 0), (.int .u32 0), (.int .u32 0), (.int .u32 0), (.int .u32 0), (.int .u32 0), (.int .u32 0), (.int .u32 0), (.int .u32 0), (.int .u32 0)]⟩)])) fun (r2_ : (PA) × (Int) × Unit) =>
 M.ite (!(eqB r2_.2.1 0))
 (M.pure (.tuple ⟨[(.pointer none), (.pointer none), (.pointer none), (.pointer none)]⟩))
 (f31c0 X L r0_ r2_)
def f31 (X : XT) (L : LoopI) (x : (Int) × (Int) × (Int) × Unit) : M Value :=
 M.callS (.tuple [(.cell .ptr), (.cell .ptr), (.cell .ptr), (.cell .ptr)]) (X (.call 42 [(.int .i64 x.1), (.int .i64 x.2.1), (.int .i64 x.2.2.1)])) fun (r0_ : (PA) × (PA) × (PA) × (PA) × Unit) =>
 M.eqPtr r0_.1 none fun (q1_ : Bool) =>
 M.ite q1_
 (M.pure (.tuple ⟨[(.pointer none), (.pointer none), (.pointer none), (.pointer none)]⟩))
 (f31c1 X L r0_)

theorem e31 (X : XT) (L : LoopI) (x : (Int) × (Int) × (Int) × Unit) : evBody CC { call := X, loop := L } 31 (shsInj [(.cell (.int .i64)), (.cell (.int .i64)), (.cell (.int .i64))] x) = f31 X L x := by kernel_rfl

/-- hayrick/files.Put -/
def f32c0 (X : XT) (L : LoopI) (x : (PA) × (Int × Int × Int × Int × Int × Int × Int × Int × Int × Int × Int × Unit) × (SL) × (Bool) × Unit) (s11_ : (SL) × (Int) × Unit) (b13_ : Nat) (x17_ : Int) : M (((SL) × (Int) × Unit) ⊕ (((SL) × Unit) ⊕ (((Int) × Unit) ⊕ (Unit)))) :=
 M.callS (.tuple [(.cell (.int .u32)), (.cell (.int .i64))]) (X (.call 47 [(.pointer x.1), (.int .i64 x17_), (.int .i64 s11_.2.1), (.slice (some (Addr.mk b13_ 0 none)) (Int.toNat 112) (Int.toNat 112)), (.bool false)])) fun (r18_ : (Int) × (Int) × Unit) =>
 M.ite (!(eqB r18_.2.1 0))
 (M.pure (.inr (.inr (.inl (r18_.2.1, ())))))
 (M.new (.cells (Row.ofList [(.int .u32 r18_.1)]) 73 false (0, 0) false) fun b20_ =>
 M.append 73 1 4 s11_.1.1 s11_.1.2.1 s11_.1.2.2 (.slice (some (Addr.mk b20_ 0 none)) 1 1) fun a21_ n22_ c23_ =>
 M.pure (.inl ((a21_, n22_, c23_), (addW .i64 s11_.2.1 1), ())))
def f32c1 (X : XT) (L : LoopI) (x : (PA) × (Int × Int × Int × Int × Int × Int × Int × Int × Int × Int × Int × Unit) × (SL) × (Bool) × Unit) (b0_ : Nat) (s11_ : (SL) × (Int) × Unit) : M (((SL) × (Int) × Unit) ⊕ (((SL) × Unit) ⊕ (((Int) × Unit) ⊕ (Unit)))) :=
 M.guard (decide (0 ≤ 112) && decide (112 ≤ 112) && decide ((1 : Int) * 112 ≤ 2 ^ 48))
 (M.new (.cells (Row.rep [(.int .u8 0)] (Int.toNat 112)) 5 false (0, 0) false) fun b13_ =>
 let v14_ : Int := mulW .i64 s11_.2.1 112
 M.guard (upB v14_ x.2.2.1.2.1)
 (let v15_ : Nat := (Int.toNat v14_)
 M.copy 1 (some (Addr.mk b13_ 0 none)) (Int.toNat 112) (.slice (x.2.2.1.1.map (·.add (v15_ * 1))) (x.2.2.1.2.1 - v15_) (x.2.2.1.2.2 - v15_)) fun m16_ =>
 M.load (.cell (.int .i64)) 1 ((Addr.mk b0_ 0 none).add 0) fun (x17_ : Int) =>
 f32c0 X L x s11_ b13_ x17_))
def f32c2 (X : XT) (L : LoopI) (x : (PA) × (Int × Int × Int × Int × Int × Int × Int × Int × Int × Int × Int × Unit) × (SL) × (Bool) × Unit) (j25_ : (SL) × Unit) (x26_ : Int × Int × Int × Int × Int × Int × Int × Int × Int × Int × Int × Unit) : M (Value) :=
 M.callS (.one (.cell (.int .i64))) (X (.call 48 [(.pointer x.1), (.agg ⟨[(.int .i64 x26_.1), (.int .i64 x26_.2.1), (.int .i64 x26_.2.2.1), (.int .i64 x26_.2.2.2.1), (.int .u32 x26_.2.2.2.2.1), (.int .u32 x26_.2.2.2.2.2.1), (.int .u32 x26_.2.2.2.2.2.2.1), (.int .u32 x26_.2.2.2.2.2.2.2.1), (.int .u32 x26_.2.2.2.2.2.2.2.2.1), (.int .u32 x26_.2.2.2.2.2.2.2.2.2.1), (.int .u32 x26_.2.2.2.2.2.2.2.2.2.2.1)]⟩), (.slice j25_.1.1 j25_.1.2.1 j25_.1.2.2), (.bool x.2.2.2.1)])) fun (r27_ : Int) =>
 M.pure (.int .i64 r27_)
def f32c3 (X : XT) (L : LoopI) (x : (PA) × (Int × Int × Int × Int × Int × Int × Int × Int × Int × Int × Int × Unit) × (SL) × (Bool) × Unit) (b0_ : Nat) (r10_ : Int) : M (Value) :=
 M.bind (L (σ := (SL) × (Int) × Unit) (ρ := ((SL) × Unit) ⊕ (((Int) × Unit) ⊕ (Unit))) (fun s11_ =>
 M.ite (ltB s11_.2.1 r10_)
 (f32c1 X L x b0_ s11_)
 (M.pure (.inr (.inl (s11_.1, ()))))) ((none, 0, 0), 0, ())) <| M.sum (fun (j25_ : (SL) × Unit) =>
 M.load (.agg [(.int .i64), (.int .i64), (.int .i64), (.int .i64), (.int .u32), (.int .u32), (.int .u32), (.int .u32), (.int .u32), (.int .u32), (.int .u32)]) 11 (Addr.mk b0_ 0 none) fun (x26_ : Int × Int × Int × Int × Int × Int × Int × Int × Int × Int × Int × Unit) =>
 f32c2 X L x j25_ x26_) (M.sum (fun (j28_ : (Int) × Unit) =>
 M.pure (.int .i64 j28_.1)) (fun _ => M.stuck))
def f32c4 (X : XT) (L : LoopI) (x : (PA) × (Int × Int × Int × Int × Int × Int × Int × Int × Int × Int × Int × Unit) × (SL) × (Bool) × Unit) (b0_ : Nat) (x6_ : Int × Int × Int × Int × Int × Int × Int × Int × Int × Int × Int × Unit) : M (Value) :=
 M.callS (.one (.cell .bool)) (X (.call 45 [(.agg ⟨[(.int .i64 x6_.1), (.int .i64 x6_.2.1), (.int .i64 x6_.2.2.1), (.int .i64 x6_.2.2.2.1), (.int .u32 x6_.2.2.2.2.1), (.int .u32 x6_.2.2.2.2.2.1), (.int .u32 x6_.2.2.2.2.2.2.1), (.int .u32 x6_.2.2.2.2.2.2.2.1), (.int .u32 x6_.2.2.2.2.2.2.2.2.1), (.int .u32 x6_.2.2.2.2.2.2.2.2.2.1), (.int .u32 x6_.2.2.2.2.2.2.2.2.2.2.1)]⟩)])) fun (r7_ : Bool) =>
 M.ite (!r7_)
 (M.pure (.int .i64 1))
 (M.callS (.one (.cell (.int .i64))) (X (.call 46 [(.int .i64 ((x.2.2.1.2.1 : Nat) : Int))])) fun (r10_ : Int) =>
 f32c3 X L x b0_ r10_)
def f32c5 (X : XT) (L : LoopI) (x : (PA) × (Int × Int × Int × Int × Int × Int × Int × Int × Int × Int × Int × Unit) × (SL) × (Bool) × Unit) (b0_ : Nat) (r5_ : Int × Int × Int × Int × Int × Int × Int × Int × Int × Int × Int × Unit) : M (Value) :=
 M.store (Addr.mk b0_ 0 none) [(.int .i64 r5_.1), (.int .i64 r5_.2.1), (.int .i64 r5_.2.2.1), (.int .i64 r5_.2.2.2.1), (.int .u32 r5_.2.2.2.2.1), (.int .u32 r5_.2.2.2.2.2.1), (.int .u32 r5_.2.2.2.2.2.2.1), (.int .u32 r5_.2.2.2.2.2.2.2.1), (.int .u32 r5_.2.2.2.2.2.2.2.2.1), (.int .u32 r5_.2.2.2.2.2.2.2.2.2.1), (.int .u32 r5_.2.2.2.2.2.2.2.2.2.2.1)]
 (M.load (.agg [(.int .i64), (.int .i64), (.int .i64), (.int .i64), (.int .u32), (.int .u32), (.int .u32), (.int .u32), (.int .u32), (.int .u32), (.int .u32)]) 11 (Addr.mk b0_ 0 none) fun (x6_ : Int × Int × Int × Int × Int × Int × Int × Int × Int × Int × Int × Unit) =>
 f32c4 X L x b0_ x6_)
def f32c6 (X : XT) (L : LoopI) (x : (PA) × (Int × Int × Int × Int × Int × Int × Int × Int × Int × Int × Int × Unit) × (SL) × (Bool) × Unit) (b0_ : Nat) (x3_ : Int × Int × Int × Int × Int × Int × Int × Int × Int × Int × Int × Unit) (v4_ : Int) : M (Value) :=
 M.callS (.one (.agg [(.int .i64), (.int .i64), (.int .i64), (.int .i64), (.int .u32), (.int .u32), (.int .u32), (.int .u32), (.int .u32), (.int .u32), (.int .u32)])) (X (.call 44 [(.agg ⟨[(.int .i64 x3_.1), (.int .i64 x3_.2.1), (.int .i64 x3_.2.2.1), (.int .i64 x3_.2.2.2.1), (.int .u32 x3_.2.2.2.2.1), (.int .u32 x3_.2.2.2.2.2.1), (.int .u32 x3_.2.2.2.2.2.2.1), (.int .u32 x3_.2.2.2.2.2.2.2.1), (.int .u32 x3_.2.2.2.2.2.2.2.2.1), (.int .u32 x3_.2.2.2.2.2.2.2.2.2.1), (.int .u32 x3_.2.2.2.2.2.2.2.2.2.2.1)]⟩), (.int .i64 v4_)])) fun (r5_ : Int × Int × Int × Int × Int × Int × Int × Int × Int × Int × Int × Unit) =>
 f32c5 X L x b0_ r5_
def f32c7 (X : XT) (L : LoopI) (x : (PA) × (Int × Int × Int × Int × Int × Int × Int × Int × Int × Int × Int × Unit) × (SL) × (Bool) × Unit) : M (Value) :=
 M.new (.cells (Row.ofList [(.int .i64 x.2.1.1), (.int .i64 x.2.1.2.1), (.int .i64 x.2.1.2.2.1), (.int .i64 x.2.1.2.2.2.1), (.int .u32 x.2.1.2.2.2.2.1), (.int .u32 x.2.1.2.2.2.2.2.1), (.int .u32 x.2.1.2.2.2.2.2.2.1), (.int .u32 x.2.1.2.2.2.2.2.2.2.1), (.int .u32 x.2.1.2.2.2.2.2.2.2.2.1), (.int .u32 x.2.1.2.2.2.2.2.2.2.2.2.1), (.int .u32 x.2.1.2.2.2.2.2.2.2.2.2.2.1)]) 76 false (0, 0) false) fun b0_ =>
 M.callS (.one (.cell .ptr)) (X (.call 36 [(.pointer x.1)])) fun (r1_ : PA) =>
 M.eqPtr r1_ none fun (q2_ : Bool) =>
 M.ite q2_
 (M.pure (.int .i64 2))
 (M.load (.agg [(.int .i64), (.int .i64), (.int .i64), (.int .i64), (.int .u32), (.int .u32), (.int .u32), (.int .u32), (.int .u32), (.int .u32), (.int .u32)]) 11 (Addr.mk b0_ 0 none) fun (x3_ : Int × Int × Int × Int × Int × Int × Int × Int × Int × Int × Int × Unit) =>
 f32c6 X L x b0_ x3_ ((x.2.2.1.2.1 : Nat) : Int))
def f32 (X : XT) (L : LoopI) (x : (PA) × (Int × Int × Int × Int × Int × Int × Int × Int × Int × Int × Int × Unit) × (SL) × (Bool) × Unit) : M Value :=
 f32c7 X L x

theorem e32 (X : XT) (L : LoopI) (x : (PA) × (Int × Int × Int × Int × Int × Int × Int × Int × Int × Int × Int × Unit) × (SL) × (Bool) × Unit) : evBody CC { call := X, loop := L } 32 (shsInj [(.cell .ptr), (.agg [(.int .i64), (.int .i64), (.int .i64), (.int .i64), (.int .u32), (.int .u32), (.int .u32), (.int .u32), (.int .u32), (.int .u32), (.int .u32)]), (.cell .slice), (.cell .bool)] x) = f32 X L x := by kernel_rfl

/-- hayrick/hayrickref19.Put -/
def f33c0 (X : XT) (L : LoopI) (x : (PA) × (Int × Int × Int × Int × Int × Int × Int × Int × Int × Int × Int × Unit) × (SL) × (Bool) × Unit) (s7_ : (SL) × (Int) × Unit) (b10_ : Nat) (s11_ : (Int) × Unit) : M (((Int) × Unit) ⊕ ((Unit) ⊕ (Unit))) :=
 M.join (fun (j12_ : (Bool) × Unit) =>
 M.ite j12_.1
 (let v14_ : Int := addW .i64 s7_.2.1 s11_.1
 M.guard (inB v14_ x.2.2.1.2.1)
 (M.deref x.2.2.1.1 fun a15_ =>
 M.load (.cell (.int .u8)) 1 (a15_.add ((Int.toNat v14_) * 1)) fun (x16_ : Int) =>
 M.guard (inB s11_.1 (Int.toNat 112))
 (M.store ((Addr.mk b10_ 0 none).add ((Int.toNat s11_.1) * 1)) [(.int .u8 x16_)]
 (M.pure (.inl ((addW .i64 s11_.1 1), ()))))))
 (M.pure (.inr (.inl (()))))) fun go13_ =>
 M.ite (ltB s11_.1 112)
 (go13_ ((ltB (addW .i64 s7_.2.1 s11_.1) ((x.2.2.1.2.1 : Nat) : Int)), ()))
 (go13_ (false, ()))
def f33c1 (X : XT) (L : LoopI) (x : (PA) × (Int × Int × Int × Int × Int × Int × Int × Int × Int × Int × Int × Unit) × (SL) × (Bool) × Unit) (s7_ : (SL) × (Int) × Unit) (b10_ : Nat) (x23_ : Int) (v24_ : Int) : M (((SL) × (Int) × Unit) ⊕ (((SL) × Unit) ⊕ (((Int) × Unit) ⊕ (Unit)))) :=
 M.callS (.tuple [(.cell (.int .u32)), (.cell (.int .i64))]) (X (.call 50 [(.pointer x.1), (.int .i64 x23_), (.int .i64 v24_), (.slice (some (Addr.mk b10_ 0 none)) (Int.toNat 112) (Int.toNat 112)), (.bool false)])) fun (r25_ : (Int) × (Int) × Unit) =>
 M.ite (!(eqB r25_.2.1 0))
 (M.pure (.inr (.inr (.inl (r25_.2.1, ())))))
 (M.new (.cells (Row.ofList [(.int .u32 r25_.1)]) 73 false (0, 0) false) fun b27_ =>
 M.append 73 1 4 s7_.1.1 s7_.1.2.1 s7_.1.2.2 (.slice (some (Addr.mk b27_ 0 none)) 1 1) fun a28_ n29_ c30_ =>
 M.pure (.inl ((a28_, n29_, c30_), (addW .i64 s7_.2.1 112), ())))
def f33c2 (X : XT) (L : LoopI) (x : (PA) × (Int × Int × Int × Int × Int × Int × Int × Int × Int × Int × Int × Unit) × (SL) × (Bool) × Unit) (b0_ : Nat) (s7_ : (SL) × (Int) × Unit) : M (((SL) × (Int) × Unit) ⊕ (((SL) × Unit) ⊕ (((Int) × Unit) ⊕ (Unit)))) :=
 M.guard (decide (0 ≤ 112) && decide (112 ≤ 112) && decide ((1 : Int) * 112 ≤ 2 ^ 48))
 (M.new (.cells (Row.rep [(.int .u8 0)] (Int.toNat 112)) 5 false (0, 0) false) fun b10_ =>
 M.bind (L (σ := (Int) × Unit) (ρ := (Unit) ⊕ (Unit)) (fun s11_ =>
 f33c0 X L x s7_ b10_ s11_) (0, ())) <| M.sum (fun (j22_ : Unit) =>
 M.load (.cell (.int .i64)) 1 ((Addr.mk b0_ 0 none).add 0) fun (x23_ : Int) =>
 M.guard (!(decide (112 = 0)))
 (f33c1 X L x s7_ b10_ x23_ (IntKind.i64.wrap ((s7_.2.1 : Int).tdiv 112)))) (fun _ => M.stuck))
def f33c3 (X : XT) (L : LoopI) (x : (PA) × (Int × Int × Int × Int × Int × Int × Int × Int × Int × Int × Int × Unit) × (SL) × (Bool) × Unit) (j32_ : (SL) × Unit) (x33_ : Int × Int × Int × Int × Int × Int × Int × Int × Int × Int × Int × Unit) (v34_ : Int) : M (Value) :=
 M.callS (.one (.cell (.int .i64))) (X (.call 51 [(.pointer x.1), (.agg ⟨[(.int .i64 x33_.1), (.int .i64 x33_.2.1), (.int .i64 x33_.2.2.1), (.int .i64 x33_.2.2.2.1), (.int .u32 x33_.2.2.2.2.1), (.int .u32 x33_.2.2.2.2.2.1), (.int .u32 x33_.2.2.2.2.2.2.1), (.int .u32 x33_.2.2.2.2.2.2.2.1), (.int .u32 x33_.2.2.2.2.2.2.2.2.1), (.int .u32 x33_.2.2.2.2.2.2.2.2.2.1), (.int .u32 x33_.2.2.2.2.2.2.2.2.2.2.1)]⟩), (.int .i64 v34_), (.slice j32_.1.1 j32_.1.2.1 j32_.1.2.2), (.bool x.2.2.2.1)])) fun (r35_ : Int) =>
 M.pure (.int .i64 r35_)
def f33c4 (X : XT) (L : LoopI) (x : (PA) × (Int × Int × Int × Int × Int × Int × Int × Int × Int × Int × Int × Unit) × (SL) × (Bool) × Unit) (b0_ : Nat) : M (Value) :=
 M.bind (L (σ := (SL) × (Int) × Unit) (ρ := ((SL) × Unit) ⊕ (((Int) × Unit) ⊕ (Unit))) (fun s7_ =>
 M.ite (ltB s7_.2.1 ((x.2.2.1.2.1 : Nat) : Int))
 (f33c2 X L x b0_ s7_)
 (M.pure (.inr (.inl (s7_.1, ()))))) ((none, 0, 0), 0, ())) <| M.sum (fun (j32_ : (SL) × Unit) =>
 M.load (.agg [(.int .i64), (.int .i64), (.int .i64), (.int .i64), (.int .u32), (.int .u32), (.int .u32), (.int .u32), (.int .u32), (.int .u32), (.int .u32)]) 11 (Addr.mk b0_ 0 none) fun (x33_ : Int × Int × Int × Int × Int × Int × Int × Int × Int × Int × Int × Unit) =>
 f33c3 X L x j32_ x33_ ((x.2.2.1.2.1 : Nat) : Int)) (M.sum (fun (j36_ : (Int) × Unit) =>
 M.pure (.int .i64 j36_.1)) (fun _ => M.stuck))
def f33c5 (X : XT) (L : LoopI) (x : (PA) × (Int × Int × Int × Int × Int × Int × Int × Int × Int × Int × Int × Unit) × (SL) × (Bool) × Unit) (b0_ : Nat) : M (Value) :=
 M.load (.cell (.int .i64)) 1 ((Addr.mk b0_ 0 none).add 0) fun (x1_ : Int) =>
 M.load (.cell (.int .i64)) 1 ((Addr.mk b0_ 0 none).add 1) fun (x2_ : Int) =>
 M.load (.cell (.int .i64)) 1 ((Addr.mk b0_ 0 none).add 3) fun (x4_ : Int) =>
 M.callS (.one (.cell .bool)) (X (.call 49 [(.agg ⟨[(.int .i64 x1_), (.int .i64 x2_), (.int .i64 ((x.2.2.1.2.1 : Nat) : Int)), (.int .i64 x4_), (.int .u32 0), (.int .u32 0), (.int .u32 0), (.int .u32 0), (.int .u32 0), (.int .u32 0), (.int .u32 0)]⟩)])) fun (r5_ : Bool) =>
 M.ite (!r5_)
 (M.pure (.int .i64 1))
 (f33c4 X L x b0_)
def f33 (X : XT) (L : LoopI) (x : (PA) × (Int × Int × Int × Int × Int × Int × Int × Int × Int × Int × Int × Unit) × (SL) × (Bool) × Unit) : M Value :=
 M.new (.cells (Row.ofList [(.int .i64 x.2.1.1), (.int .i64 x.2.1.2.1), (.int .i64 x.2.1.2.2.1), (.int .i64 x.2.1.2.2.2.1), (.int .u32 x.2.1.2.2.2.2.1), (.int .u32 x.2.1.2.2.2.2.2.1), (.int .u32 x.2.1.2.2.2.2.2.2.1), (.int .u32 x.2.1.2.2.2.2.2.2.2.1), (.int .u32 x.2.1.2.2.2.2.2.2.2.2.1), (.int .u32 x.2.1.2.2.2.2.2.2.2.2.2.1), (.int .u32 x.2.1.2.2.2.2.2.2.2.2.2.2.1)]) 76 false (0, 0) false) fun b0_ =>
 f33c5 X L x b0_

theorem e33 (X : XT) (L : LoopI) (x : (PA) × (Int × Int × Int × Int × Int × Int × Int × Int × Int × Int × Int × Unit) × (SL) × (Bool) × Unit) : evBody CC { call := X, loop := L } 33 (shsInj [(.cell .ptr), (.agg [(.int .i64), (.int .i64), (.int .i64), (.int .i64), (.int .u32), (.int .u32), (.int .u32), (.int .u32), (.int .u32), (.int .u32), (.int .u32)]), (.cell .slice), (.cell .bool)] x) = f33 X L x := by kernel_rfl

/-- hayrick/dirs.Save -/
def f34c0 (X : XT) (L : LoopI) (x : (PA) × (Int) × (SL) × (Bool) × Unit) : M (Value) :=
 M.callS (.tuple [(.cell .slice), (.cell (.int .i64))]) (X (.call 52 [(.slice x.2.2.1.1 x.2.2.1.2.1 x.2.2.1.2.2)])) fun (r2_ : (SL) × (Int) × Unit) =>
 M.ite (!(eqB r2_.2.1 0))
 (M.pure (.int .i64 r2_.2.1))
 (M.callS (.one (.cell (.int .i64))) (X (.call 32 [(.pointer x.1), (.agg ⟨[(.int .i64 x.2.1), (.int .i64 2), (.int .i64 0), (.int .i64 1), (.int .u32 0), (.int .u32 0), (.int .u32 0), (.int .u32 0), (.int .u32 0), (.int .u32 0), (.int .u32 0)]⟩), (.slice r2_.1.1 r2_.1.2.1 r2_.1.2.2), (.bool x.2.2.2.1)])) fun (r4_ : Int) =>
 M.pure (.int .i64 r4_))
def f34 (X : XT) (L : LoopI) (x : (PA) × (Int) × (SL) × (Bool) × Unit) : M Value :=
 M.join (fun (j0_ : (Bool) × Unit) =>
 M.ite j0_.1
 (M.pure (.int .i64 2))
 (f34c0 X L x)) fun go1_ =>
 M.eqPtr x.1 none fun (q5_ : Bool) =>
 M.ite q5_
 (go1_ (true, ()))
 (M.callS (.one (.cell .ptr)) (X (.call 36 [(.pointer x.1)])) fun (r6_ : PA) =>
 M.eqPtr r6_ none fun (q7_ : Bool) =>
 go1_ (q7_, ()))

theorem e34 (X : XT) (L : LoopI) (x : (PA) × (Int) × (SL) × (Bool) × Unit) : evBody CC { call := X, loop := L } 34 (shsInj [(.cell .ptr), (.cell (.int .i64)), (.cell .slice), (.cell .bool)] x) = f34 X L x := by kernel_rfl

/-- hayrick/hayrickref20.Save -/
def f35c0 (X : XT) (L : LoopI) (x : (PA) × (Int) × (SL) × (Bool) × Unit) : M (Value) :=
 M.callS (.tuple [(.cell .slice), (.cell (.int .i64))]) (X (.call 53 [(.slice x.2.2.1.1 x.2.2.1.2.1 x.2.2.1.2.2)])) fun (r0_ : (SL) × (Int) × Unit) =>
 M.ite (!(eqB r0_.2.1 0))
 (M.pure (.int .i64 r0_.2.1))
 (M.callS (.one (.cell (.int .i64))) (X (.call 33 [(.pointer x.1), (.agg ⟨[(.int .i64 x.2.1), (.int .i64 2), (.int .i64 0), (.int .i64 1), (.int .u32 0), (.int .u32 0), (.int .u32 0), (.int .u32 0), (.int .u32 0), (.int .u32 0), (.int .u32 0)]⟩), (.slice r0_.1.1 r0_.1.2.1 r0_.1.2.2), (.bool x.2.2.2.1)])) fun (r2_ : Int) =>
 M.pure (.int .i64 r2_))
def f35 (X : XT) (L : LoopI) (x : (PA) × (Int) × (SL) × (Bool) × Unit) : M Value :=
 f35c0 X L x

theorem e35 (X : XT) (L : LoopI) (x : (PA) × (Int) × (SL) × (Bool) × Unit) : evBody CC { call := X, loop := L } 35 (shsInj [(.cell .ptr), (.cell (.int .i64)), (.cell .slice), (.cell .bool)] x) = f35 X L x := by kernel_rfl

/-- (*hayrick/store.Store).Log -/
def f36 (X : XT) (L : LoopI) (x : (PA) × Unit) : M Value :=
 M.eqPtr x.1 none fun (q0_ : Bool) =>
 M.ite q0_
 (M.pure (.pointer none))
 (M.deref x.1 fun a1_ =>
 M.load (.cell .ptr) 1 (a1_.add 0) fun (x2_ : PA) =>
 M.pure (.pointer x2_))

theorem e36 (X : XT) (L : LoopI) (x : (PA) × Unit) : evBody CC { call := X, loop := L } 36 (shsInj [(.cell .ptr)] x) = f36 X L x := by kernel_rfl

/-- hayrick/dirs.Lookup -/
def f37 (X : XT) (L : LoopI) (x : (PA) × (Int) × (ByteArray) × Unit) : M Value :=
 M.new (.cells (Row.ofList [(.string x.2.2.1)]) 9 false (0, 0) false) fun b0_ =>
 M.callS (.tuple [(.cell (.int .i64)), (.cell (.int .i64))]) (X (.call 54 [(.pointer x.1), (.int .i64 x.2.1), (.func (.func 55) ⟨[]⟩ ⟨[(.pointer (some (Addr.mk b0_ 0 none)))]⟩)])) fun (r1_ : (Int) × (Int) × Unit) =>
 M.pure (.tuple ⟨[(.int .i64 r1_.1), (.int .i64 r1_.2.1)]⟩)

theorem e37 (X : XT) (L : LoopI) (x : (PA) × (Int) × (ByteArray) × Unit) : evBody CC { call := X, loop := L } 37 (shsInj [(.cell .ptr), (.cell (.int .i64)), (.cell .string)] x) = f37 X L x := by kernel_rfl

/-- hayrick/dirs.Count -/
def f38c0 (X : XT) (L : LoopI) (r0_ : (Int × Int × Int × Int × Int × Int × Int × Int × Int × Int × Int × Unit) × (Int) × Unit) (b1_ : Nat) : M (Value) :=
 M.store (Addr.mk b1_ 0 none) [(.int .i64 r0_.1.1), (.int .i64 r0_.1.2.1), (.int .i64 r0_.1.2.2.1), (.int .i64 r0_.1.2.2.2.1), (.int .u32 r0_.1.2.2.2.2.1), (.int .u32 r0_.1.2.2.2.2.2.1), (.int .u32 r0_.1.2.2.2.2.2.2.1), (.int .u32 r0_.1.2.2.2.2.2.2.2.1), (.int .u32 r0_.1.2.2.2.2.2.2.2.2.1), (.int .u32 r0_.1.2.2.2.2.2.2.2.2.2.1), (.int .u32 r0_.1.2.2.2.2.2.2.2.2.2.2.1)]
 (M.ite (!(eqB r0_.2.1 0))
 (M.pure (.tuple ⟨[(.int .i64 0), (.int .i64 r0_.2.1)]⟩))
 (M.load (.cell (.int .i64)) 1 ((Addr.mk b1_ 0 none).add 2) fun (x3_ : Int) =>
 M.guard (!(decide (28 = 0)))
 (M.pure (.tuple ⟨[(.int .i64 (IntKind.i64.wrap ((x3_ : Int).tdiv 28))), (.int .i64 0)]⟩))))
def f38c1 (X : XT) (L : LoopI) (x : (PA) × (Int) × Unit) : M (Value) :=
 M.callS (.tuple [(.agg [(.int .i64), (.int .i64), (.int .i64), (.int .i64), (.int .u32), (.int .u32), (.int .u32), (.int .u32), (.int .u32), (.int .u32), (.int .u32)]), (.cell (.int .i64))]) (X (.call 57 [(.pointer x.1), (.int .i64 x.2.1)])) fun (r0_ : (Int × Int × Int × Int × Int × Int × Int × Int × Int × Int × Int × Unit) × (Int) × Unit) =>
 M.new (.cells (Row.ofList [(.int .i64 0), (.int .i64 0), (.int .i64 0), (.int .i64 0), (.int .u32 0), (.int .u32 0), (.int .u32 0), (.int .u32 0), (.int .u32 0), (.int .u32 0), (.int .u32 0)]) 76 false (0, 0) false) fun b1_ =>
 f38c0 X L r0_ b1_
def f38 (X : XT) (L : LoopI) (x : (PA) × (Int) × Unit) : M Value :=
 f38c1 X L x

theorem e38 (X : XT) (L : LoopI) (x : (PA) × (Int) × Unit) : evBody CC { call := X, loop := L } 38 (shsInj [(.cell .ptr), (.cell (.int .i64))] x) = f38 X L x := by kernel_rfl

/-- unicode/utf8.DecodeRuneInString -/
def f39 (X : XT) (L : LoopI) (x : (ByteArray) × Unit) : M Value :=
 M.join (fun (j0_ : (Bool) × Unit) =>
 M.ite j0_.1
 (M.guard (inB 0 x.1.size)
 (M.pure (.tuple ⟨[(.int .i32 (wrapW .i32 (byteAt x.1 0))), (.int .i64 1)]⟩)))
 (M.callS (.tuple [(.cell (.int .i32)), (.cell (.int .i64))]) (X (.call 58 [(.string x.1)])) fun (r4_ : (Int) × (Int) × Unit) =>
 M.pure (.tuple ⟨[(.int .i32 r4_.1), (.int .i64 r4_.2.1)]⟩))) fun go1_ =>
 M.ite (!(seq x.1 st0))
 (M.guard (inB 0 x.1.size)
 (go1_ ((ltB (byteAt x.1 0) 128), ())))
 (go1_ (false, ()))

theorem e39 (X : XT) (L : LoopI) (x : (ByteArray) × Unit) : evBody CC { call := X, loop := L } 39 (shsInj [(.cell .string)] x) = f39 X L x := by kernel_rfl

/-- hayrick/hayrickref10.Rune -/
def f40c0 (X : XT) (L : LoopI) (x : (ByteArray) × Unit) (j4_ : (Int) × (Int) × (Int) × Unit) (s8_ : (Int) × (Int) × Unit) : M (((Int) × (Int) × Unit) ⊕ (((Int) × Unit) ⊕ (((Int) × (Int) × (Bool) × Unit) ⊕ (Unit)))) :=
 M.ite (ltB s8_.2.1 j4_.1)
 (M.join (fun (j10_ : (Bool) × Unit) =>
 M.ite j10_.1
 (M.pure (.inr (.inr (.inl (65533, 1, true, ())))))
 (M.guard (inB s8_.2.1 x.1.size)
 (M.pure (.inl ((subW .i64 (addW .i64 (mulW .i64 64 s8_.1) (wrapW .i64 (byteAt x.1 s8_.2.1))) 128), (addW .i64 s8_.2.1 1), ()))))) fun go11_ =>
 M.guard (inB s8_.2.1 x.1.size)
 (M.ite (ltB (byteAt x.1 s8_.2.1) 128)
 (go11_ (true, ()))
 (M.guard (inB s8_.2.1 x.1.size)
 (go11_ ((ltB 191 (byteAt x.1 s8_.2.1)), ())))))
 (M.pure (.inr (.inl (s8_.1, ()))))
def f40c1 (X : XT) (L : LoopI) (x : (ByteArray) × Unit) (j4_ : (Int) × (Int) × (Int) × Unit) : M (Value) :=
 M.bind (L (σ := (Int) × (Int) × Unit) (ρ := ((Int) × Unit) ⊕ (((Int) × (Int) × (Bool) × Unit) ⊕ (Unit))) (fun s8_ =>
 f40c0 X L x j4_ s8_) (j4_.2.2.1, 1, ())) <| M.sum (fun (j22_ : (Int) × Unit) =>
 M.join (fun (j23_ : (Bool) × Unit) =>
 M.ite j23_.1
 (M.pure (.tuple ⟨[(.int .i32 65533), (.int .i64 1), (.bool true)]⟩))
 (M.pure (.tuple ⟨[(.int .i32 (wrapW .i32 j22_.1)), (.int .i64 j4_.1), (.bool false)]⟩))) fun go24_ =>
 M.ite (ltB j22_.1 j4_.2.1)
 (go24_ (true, ()))
 (M.ite (ltB 1114111 j22_.1)
 (go24_ (true, ()))
 (M.ite (leB 55296 j22_.1)
 (go24_ ((ltB j22_.1 57344), ()))
 (go24_ (false, ()))))) (M.sum (fun (j30_ : (Int) × (Int) × (Bool) × Unit) =>
 M.pure (.tuple ⟨[(.int .i32 j30_.1), (.int .i64 j30_.2.1), (.bool j30_.2.2.1)]⟩)) (fun _ => M.stuck))
def f40c2 (X : XT) (L : LoopI) (v1_ : Int) (go5_ : ((Int) × (Int) × (Int) × Unit) → M (Value)) : M (Value) :=
 M.join (fun (j34_ : (Bool) × Unit) =>
 M.ite j34_.1
 (go5_ (2, 128, (subW .i64 v1_ 192), ()))
 (M.join (fun (j37_ : (Bool) × Unit) =>
 M.ite j37_.1
 (go5_ (3, 2048, (subW .i64 v1_ 224), ()))
 (M.join (fun (j40_ : (Bool) × Unit) =>
 M.ite j40_.1
 (go5_ (4, 65536, (subW .i64 v1_ 240), ()))
 (go5_ (0, 0, 0, ()))) fun go41_ =>
 M.ite (leB 240 v1_)
 (go41_ ((ltB v1_ 248), ()))
 (go41_ (false, ())))) fun go38_ =>
 M.ite (leB 224 v1_)
 (go38_ ((ltB v1_ 240), ()))
 (go38_ (false, ())))) fun go35_ =>
 M.ite (leB 192 v1_)
 (go35_ ((ltB v1_ 224), ()))
 (go35_ (false, ()))
def f40 (X : XT) (L : LoopI) (x : (ByteArray) × Unit) : M Value :=
 M.guard (inB 0 x.1.size)
 (let v1_ : Int := wrapW .i64 (byteAt x.1 0)
 M.ite (ltB v1_ 128)
 (M.pure (.tuple ⟨[(.int .i32 (wrapW .i32 v1_)), (.int .i64 1), (.bool false)]⟩))
 (M.join (fun (j4_ : (Int) × (Int) × (Int) × Unit) =>
 M.join (fun (j6_ : (Bool) × Unit) =>
 M.ite j6_.1
 (M.pure (.tuple ⟨[(.int .i32 65533), (.int .i64 1), (.bool true)]⟩))
 (f40c1 X L x j4_)) fun go7_ =>
 M.ite (eqB j4_.1 0)
 (go7_ (true, ()))
 (go7_ ((ltB ((x.1.size : Nat) : Int) j4_.1), ()))) fun go5_ =>
 f40c2 X L v1_ go5_))

theorem e40 (X : XT) (L : LoopI) (x : (ByteArray) × Unit) : evBody CC { call := X, loop := L } 40 (shsInj [(.cell .string)] x) = f40 X L x := by kernel_rfl

/-- (*strings.Builder).copyCheck -/
def f41 (X : XT) (L : LoopI) (x : (PA) × Unit) : M Value :=
 M.deref x.1 fun a0_ =>
 M.load (.cell .ptr) 1 (a0_.add 0) fun (x1_ : PA) =>
 M.eqPtr x1_ none fun (q2_ : Bool) =>
 M.ite q2_
 (aConvert PP 60 120 (.pointer x.1) fun (w3_ : Value) =>
 aConvert PP 120 60 w3_ fun (w4_ : Value) =>
 M.deref x.1 fun a5_ =>
 M.store (a5_.add 0) [w4_]
 (M.pure (.tuple ⟨[]⟩)))
 (M.deref x.1 fun a6_ =>
 M.load (.cell .ptr) 1 (a6_.add 0) fun (x7_ : PA) =>
 M.eqPtr x7_ x.1 fun (q8_ : Bool) =>
 M.ite (!q8_)
 (M.stuck)
 (M.pure (.tuple ⟨[]⟩)))

theorem e41 (X : XT) (L : LoopI) (x : (PA) × Unit) : evBody CC { call := X, loop := L } 41 (shsInj [(.cell .ptr)] x) = f41 X L x := by kernel_rfl

/-- hayrick/hayricklaw17.Made -/
def f42c0 (X : XT) (L : LoopI) (x : (Int) × (Int) × (Int) × Unit) (r0_ : (PA) × (PA) × Unit) (r4_ : (PA) × (Int) × Unit) (b5_ : Nat) (r6_ : SL) : M (Value) :=
 M.callS (.tuple [(.cell .ptr), (.cell (.int .i64))]) (X (.call 63 [(.pointer r0_.2.1), (.int .u64 1), (.slice (some (Addr.mk b5_ 0 none)) (Int.toNat x.2.2.1) (Int.toNat x.2.2.1)), (.slice r6_.1 r6_.2.1 r6_.2.2)])) fun (r7_ : (PA) × (Int) × Unit) =>
 M.join (fun (j8_ : (Bool) × Unit) =>
 M.ite j8_.1
 (M.pure (.tuple ⟨[(.pointer none), (.pointer none), (.pointer none), (.pointer none)]⟩))
 (M.pure (.tuple ⟨[(.pointer r4_.1), (.pointer r7_.1), (.pointer r0_.1), (.pointer r0_.2.1)]⟩))) fun go9_ =>
 M.ite (!(eqB r4_.2.1 0))
 (go9_ (true, ()))
 (go9_ ((!(eqB r7_.2.1 0)), ()))
def f42c1 (X : XT) (L : LoopI) (x : (Int) × (Int) × (Int) × Unit) (r0_ : (PA) × (PA) × Unit) (b2_ : Nat) (r3_ : SL) : M (Value) :=
 M.callS (.tuple [(.cell .ptr), (.cell (.int .i64))]) (X (.call 61 [(.pointer r0_.1), (.int .u64 1), (.slice (some (Addr.mk b2_ 0 none)) (Int.toNat x.2.2.1) (Int.toNat x.2.2.1)), (.slice r3_.1 r3_.2.1 r3_.2.2)])) fun (r4_ : (PA) × (Int) × Unit) =>
 M.guard (decide (0 ≤ x.2.2.1) && decide (x.2.2.1 ≤ x.2.2.1) && decide ((8 : Int) * x.2.2.1 ≤ 2 ^ 48))
 (M.new (.cells (Row.rep [(.int .u64 0)] (Int.toNat x.2.2.1)) 126 false (0, 0) false) fun b5_ =>
 M.callS (.one (.cell .slice)) (X (.call 62 [(.int .i64 x.2.2.1)])) fun (r6_ : SL) =>
 f42c0 X L x r0_ r4_ b5_ r6_)
def f42c2 (X : XT) (L : LoopI) (x : (Int) × (Int) × (Int) × Unit) : M (Value) :=
 M.callS (.tuple [(.cell .ptr), (.cell .ptr)]) (X (.call 60 [(.int .i64 x.1), (.int .i64 x.2.1), (.int .i64 x.2.2.1), (.int .i64 0)])) fun (r0_ : (PA) × (PA) × Unit) =>
 M.eqPtr r0_.1 none fun (q1_ : Bool) =>
 M.ite q1_
 (M.pure (.tuple ⟨[(.pointer none), (.pointer none), (.pointer none), (.pointer none)]⟩))
 (M.guard (decide (0 ≤ x.2.2.1) && decide (x.2.2.1 ≤ x.2.2.1) && decide ((8 : Int) * x.2.2.1 ≤ 2 ^ 48))
 (M.new (.cells (Row.rep [(.int .u64 0)] (Int.toNat x.2.2.1)) 126 false (0, 0) false) fun b2_ =>
 M.callS (.one (.cell .slice)) (X (.call 62 [(.int .i64 x.2.2.1)])) fun (r3_ : SL) =>
 f42c1 X L x r0_ b2_ r3_))
def f42 (X : XT) (L : LoopI) (x : (Int) × (Int) × (Int) × Unit) : M Value :=
 f42c2 X L x

theorem e42 (X : XT) (L : LoopI) (x : (Int) × (Int) × (Int) × Unit) : evBody CC { call := X, loop := L } 42 (shsInj [(.cell (.int .i64)), (.cell (.int .i64)), (.cell (.int .i64))] x) = f42 X L x := by kernel_rfl

/-- hayrick/store.New -/
def f43c0 (X : XT) (L : LoopI) (x : (PA) × (List Value) × Unit) (b0_ : Nat) : M (Value) :=
 M.callS (.one (.cell .ptr)) (X (.call 64 [(.pointer x.1)])) fun (r1_ : PA) =>
 M.eqPtr r1_ none fun (q2_ : Bool) =>
 M.ite q2_
 (M.pure (.tuple ⟨[(.pointer none), (.int .i64 2)]⟩))
 (M.load .raw 64 (Addr.mk b0_ 0 none) fun (x3_ : List Value) =>
 M.need (fillA (fun i => ([(0, 1), (1, 64)] : List (Nat × Nat))[i]?) (zc 113) [(0, (.pointer x.1)), (1, (.agg ⟨x3_⟩))]) fun x4_ =>
 M.new (.cells (Row.ofList x4_) 113 false (0, 0) false) fun b5_ =>
 M.pure (.tuple ⟨[(.pointer (some (Addr.mk b5_ 0 none))), (.int .i64 0)]⟩))
def f43 (X : XT) (L : LoopI) (x : (PA) × (List Value) × Unit) : M Value :=
 M.new (.cells (Row.ofList x.2.1) 95 false (0, 0) false) fun b0_ =>
 f43c0 X L x b0_

theorem e43 (X : XT) (L : LoopI) (x : (PA) × (List Value) × Unit) : evBody CC { call := X, loop := L } 43 (shsInj [(.cell .ptr), .raw] x) = f43 X L x := by kernel_rfl

/-- hayrick/files.bare -/
def f44c0 (X : XT) (L : LoopI) (b1_ : Nat) : M (Value) :=
 M.load (.agg [(.int .i64), (.int .i64), (.int .i64), (.int .i64), (.int .u32), (.int .u32), (.int .u32), (.int .u32), (.int .u32), (.int .u32), (.int .u32)]) 11 (Addr.mk b1_ 0 none) fun (x5_ : Int × Int × Int × Int × Int × Int × Int × Int × Int × Int × Int × Unit) =>
 M.pure (.agg ⟨[(.int .i64 x5_.1), (.int .i64 x5_.2.1), (.int .i64 x5_.2.2.1), (.int .i64 x5_.2.2.2.1), (.int .u32 x5_.2.2.2.2.1), (.int .u32 x5_.2.2.2.2.2.1), (.int .u32 x5_.2.2.2.2.2.2.1), (.int .u32 x5_.2.2.2.2.2.2.2.1), (.int .u32 x5_.2.2.2.2.2.2.2.2.1), (.int .u32 x5_.2.2.2.2.2.2.2.2.2.1), (.int .u32 x5_.2.2.2.2.2.2.2.2.2.2.1)]⟩)
def f44c1 (X : XT) (L : LoopI) (x : (Int × Int × Int × Int × Int × Int × Int × Int × Int × Int × Int × Unit) × (Int) × Unit) (b0_ : Nat) : M (Value) :=
 M.new (.cells (Row.ofList [(.int .i64 0), (.int .i64 0), (.int .i64 0), (.int .i64 0), (.int .u32 0), (.int .u32 0), (.int .u32 0), (.int .u32 0), (.int .u32 0), (.int .u32 0), (.int .u32 0)]) 76 false (0, 0) false) fun b1_ =>
 M.load (.cell (.int .i64)) 1 ((Addr.mk b0_ 0 none).add 0) fun (x2_ : Int) =>
 M.load (.cell (.int .i64)) 1 ((Addr.mk b0_ 0 none).add 1) fun (x3_ : Int) =>
 M.load (.cell (.int .i64)) 1 ((Addr.mk b0_ 0 none).add 3) fun (x4_ : Int) =>
 M.store (Addr.mk b1_ 0 none) [(.int .i64 x2_), (.int .i64 x3_), (.int .i64 x.2.1), (.int .i64 x4_), (.int .u32 0), (.int .u32 0), (.int .u32 0), (.int .u32 0), (.int .u32 0), (.int .u32 0), (.int .u32 0)]
 (f44c0 X L b1_)
def f44 (X : XT) (L : LoopI) (x : (Int × Int × Int × Int × Int × Int × Int × Int × Int × Int × Int × Unit) × (Int) × Unit) : M Value :=
 M.new (.cells (Row.ofList [(.int .i64 x.1.1), (.int .i64 x.1.2.1), (.int .i64 x.1.2.2.1), (.int .i64 x.1.2.2.2.1), (.int .u32 x.1.2.2.2.2.1), (.int .u32 x.1.2.2.2.2.2.1), (.int .u32 x.1.2.2.2.2.2.2.1), (.int .u32 x.1.2.2.2.2.2.2.2.1), (.int .u32 x.1.2.2.2.2.2.2.2.2.1), (.int .u32 x.1.2.2.2.2.2.2.2.2.2.1), (.int .u32 x.1.2.2.2.2.2.2.2.2.2.2.1)]) 76 false (0, 0) false) fun b0_ =>
 f44c1 X L x b0_

theorem e44 (X : XT) (L : LoopI) (x : (Int × Int × Int × Int × Int × Int × Int × Int × Int × Int × Int × Unit) × (Int) × Unit) : evBody CC { call := X, loop := L } 44 (shsInj [(.agg [(.int .i64), (.int .i64), (.int .i64), (.int .i64), (.int .u32), (.int .u32), (.int .u32), (.int .u32), (.int .u32), (.int .u32), (.int .u32)]), (.cell (.int .i64))] x) = f44 X L x := by kernel_rfl

/-- hayrick/inode.May -/
def f45c0 (X : XT) (L : LoopI) (b0_ : Nat) (r7_ : Int) : M (Value) :=
 let v8_ : Int := (if 6 < r7_ then 6 else r7_)
 M.guard (upB v8_ 6)
 (let v9_ : Nat := (Int.toNat v8_)
 M.join (fun (j10_ : (Bool) × Unit) =>
 M.pure (.bool j10_.1)) fun go11_ =>
 M.callS (.one (.cell .bool)) (X (.call 65 [(.slice (some (((Addr.mk b0_ 0 none).add 4).add (v9_ * 1))) (6 - v9_) (6 - v9_)), (.func (.func 66) ⟨[]⟩ ⟨[]⟩)])) fun (r12_ : Bool) =>
 M.ite (!r12_)
 (M.ite (ltB 6 r7_)
 (go11_ (true, ()))
 (M.load (.cell (.int .u32)) 1 ((Addr.mk b0_ 0 none).add 10) fun (x15_ : Int) =>
 go11_ ((eqB x15_ 0), ())))
 (go11_ (false, ())))
def f45c1 (X : XT) (L : LoopI) (b0_ : Nat) (j2_ : (Int) × (Int) × Unit) (go5_ : ((Bool) × Unit) → M (Value)) (x19_ : Int) : M (Value) :=
 M.ite (ltB 64 x19_)
 (go5_ (true, ()))
 (M.load (.cell (.int .i64)) 1 ((Addr.mk b0_ 0 none).add 2) fun (x21_ : Int) =>
 M.ite (ltB x21_ 0)
 (go5_ (true, ()))
 (M.load (.cell (.int .i64)) 1 ((Addr.mk b0_ 0 none).add 2) fun (x23_ : Int) =>
 M.ite (ltB j2_.1 x23_)
 (go5_ (true, ()))
 (M.load (.cell (.int .i64)) 1 ((Addr.mk b0_ 0 none).add 3) fun (x25_ : Int) =>
 M.ite (ltB x25_ 1)
 (go5_ (true, ()))
 (M.load (.cell (.int .i64)) 1 ((Addr.mk b0_ 0 none).add 3) fun (x27_ : Int) =>
 go5_ ((ltB j2_.2.1 x27_), ())))))
def f45c2 (X : XT) (L : LoopI) (b0_ : Nat) (x1_ : Int) : M (Value) :=
 M.join (fun (j2_ : (Int) × (Int) × Unit) =>
 M.join (fun (j4_ : (Bool) × Unit) =>
 M.ite j4_.1
 (M.pure (.bool false))
 (M.load (.cell (.int .i64)) 1 ((Addr.mk b0_ 0 none).add 2) fun (x6_ : Int) =>
 M.callS (.one (.cell (.int .i64))) (X (.call 46 [(.int .i64 x6_)])) fun (r7_ : Int) =>
 f45c0 X L b0_ r7_)) fun go5_ =>
 M.load (.cell (.int .i64)) 1 ((Addr.mk b0_ 0 none).add 0) fun (x17_ : Int) =>
 M.ite (ltB x17_ 1)
 (go5_ (true, ()))
 (M.load (.cell (.int .i64)) 1 ((Addr.mk b0_ 0 none).add 0) fun (x19_ : Int) =>
 f45c1 X L b0_ j2_ go5_ x19_)) fun go3_ =>
 M.ite (eqB x1_ 1)
 (go3_ (3808, 64, ()))
 (M.ite (eqB x1_ 2)
 (M.load (.cell (.int .i64)) 1 ((Addr.mk b0_ 0 none).add 2) fun (x31_ : Int) =>
 M.guard (!(decide (28 = 0)))
 (M.ite (!(eqB ((x31_ : Int).tmod 28) 0))
 (M.pure (.bool false))
 (go3_ (1792, 1, ()))))
 (M.pure (.bool false)))
def f45 (X : XT) (L : LoopI) (x : (Int × Int × Int × Int × Int × Int × Int × Int × Int × Int × Int × Unit) × Unit) : M Value :=
 M.new (.cells (Row.ofList [(.int .i64 x.1.1), (.int .i64 x.1.2.1), (.int .i64 x.1.2.2.1), (.int .i64 x.1.2.2.2.1), (.int .u32 x.1.2.2.2.2.1), (.int .u32 x.1.2.2.2.2.2.1), (.int .u32 x.1.2.2.2.2.2.2.1), (.int .u32 x.1.2.2.2.2.2.2.2.1), (.int .u32 x.1.2.2.2.2.2.2.2.2.1), (.int .u32 x.1.2.2.2.2.2.2.2.2.2.1), (.int .u32 x.1.2.2.2.2.2.2.2.2.2.2.1)]) 76 false (0, 0) false) fun b0_ =>
 M.load (.cell (.int .i64)) 1 ((Addr.mk b0_ 0 none).add 1) fun (x1_ : Int) =>
 f45c2 X L b0_ x1_

theorem e45 (X : XT) (L : LoopI) (x : (Int × Int × Int × Int × Int × Int × Int × Int × Int × Int × Int × Unit) × Unit) : evBody CC { call := X, loop := L } 45 (shsInj [(.agg [(.int .i64), (.int .i64), (.int .i64), (.int .i64), (.int .u32), (.int .u32), (.int .u32), (.int .u32), (.int .u32), (.int .u32), (.int .u32)])] x) = f45 X L x := by kernel_rfl

/-- hayrick/inode.Blocks -/
def f46 (X : XT) (L : LoopI) (x : (Int) × Unit) : M Value :=
 M.ite (leB x.1 0)
 (M.pure (.int .i64 0))
 (M.guard (!(decide (112 = 0)))
 (M.pure (.int .i64 (addW .i64 (IntKind.i64.wrap (((subW .i64 x.1 1) : Int).tdiv 112)) 1))))

theorem e46 (X : XT) (L : LoopI) (x : (Int) × Unit) : evBody CC { call := X, loop := L } 46 (shsInj [(.cell (.int .i64))] x) = f46 X L x := by kernel_rfl

/-- (*hayrick/store.Store).Data -/
def f47 (X : XT) (L : LoopI) (x : (PA) × (Int) × (Int) × (SL) × (Bool) × Unit) : M Value :=
 M.callS (.tuple [(.cell (.int .u32)), (.cell (.int .i64))]) (X (.call 67 [(.pointer x.1), (.iface 136 (.agg ⟨[(.int .i64 x.2.1), (.int .i64 x.2.2.1), (.slice x.2.2.2.1.1 x.2.2.2.1.2.1 x.2.2.2.1.2.2)]⟩)), (.bool x.2.2.2.2.1)])) fun (r0_ : (Int) × (Int) × Unit) =>
 M.pure (.tuple ⟨[(.int .u32 r0_.1), (.int .i64 r0_.2.1)]⟩)

theorem e47 (X : XT) (L : LoopI) (x : (PA) × (Int) × (Int) × (SL) × (Bool) × Unit) : evBody CC { call := X, loop := L } 47 (shsInj [(.cell .ptr), (.cell (.int .i64)), (.cell (.int .i64)), (.cell .slice), (.cell .bool)] x) = f47 X L x := by kernel_rfl

/-- hayrick/files.save -/
def f48c0 (X : XT) (L : LoopI) (x : (PA) × (Int × Int × Int × Int × Int × Int × Int × Int × Int × Int × Int × Unit) × (SL) × (Bool) × Unit) (b0_ : Nat) : M (Value) :=
 M.load (.agg [(.int .i64), (.int .i64), (.int .i64), (.int .i64), (.int .u32), (.int .u32), (.int .u32), (.int .u32), (.int .u32), (.int .u32), (.int .u32)]) 11 (Addr.mk b0_ 0 none) fun (x6_ : Int × Int × Int × Int × Int × Int × Int × Int × Int × Int × Int × Unit) =>
 M.callS (.one (.cell (.int .i64))) (X (.call 70 [(.pointer x.1), (.agg ⟨[(.int .i64 x6_.1), (.int .i64 x6_.2.1), (.int .i64 x6_.2.2.1), (.int .i64 x6_.2.2.2.1), (.int .u32 x6_.2.2.2.2.1), (.int .u32 x6_.2.2.2.2.2.1), (.int .u32 x6_.2.2.2.2.2.2.1), (.int .u32 x6_.2.2.2.2.2.2.2.1), (.int .u32 x6_.2.2.2.2.2.2.2.2.1), (.int .u32 x6_.2.2.2.2.2.2.2.2.2.1), (.int .u32 x6_.2.2.2.2.2.2.2.2.2.2.1)]⟩), (.bool x.2.2.2.1)])) fun (r7_ : Int) =>
 M.pure (.int .i64 r7_)
def f48c1 (X : XT) (L : LoopI) (x : (PA) × (Int × Int × Int × Int × Int × Int × Int × Int × Int × Int × Int × Unit) × (SL) × (Bool) × Unit) (b0_ : Nat) (j1_ : (Int) × Unit) (r4_ : (Int × Int × Int × Int × Int × Int × Int × Int × Int × Int × Int × Unit) × (SL) × (Int) × Unit) : M (Value) :=
 M.store (Addr.mk b0_ 0 none) [(.int .i64 r4_.1.1), (.int .i64 r4_.1.2.1), (.int .i64 r4_.1.2.2.1), (.int .i64 r4_.1.2.2.2.1), (.int .u32 r4_.1.2.2.2.2.1), (.int .u32 r4_.1.2.2.2.2.2.1), (.int .u32 r4_.1.2.2.2.2.2.2.1), (.int .u32 r4_.1.2.2.2.2.2.2.2.1), (.int .u32 r4_.1.2.2.2.2.2.2.2.2.1), (.int .u32 r4_.1.2.2.2.2.2.2.2.2.2.1), (.int .u32 r4_.1.2.2.2.2.2.2.2.2.2.2.1)]
 (M.ite (!(eqB r4_.2.2.1 0))
 (M.pure (.int .i64 r4_.2.2.1))
 (M.store ((Addr.mk b0_ 0 none).add 10) [(.int .u32 j1_.1)]
 (f48c0 X L x b0_)))
def f48c2 (X : XT) (L : LoopI) (x : (PA) × (Int × Int × Int × Int × Int × Int × Int × Int × Int × Int × Int × Unit) × (SL) × (Bool) × Unit) (b0_ : Nat) (j1_ : (Int) × Unit) (x3_ : Int × Int × Int × Int × Int × Int × Int × Int × Int × Int × Int × Unit) : M (Value) :=
 M.callS (.tuple [(.agg [(.int .i64), (.int .i64), (.int .i64), (.int .i64), (.int .u32), (.int .u32), (.int .u32), (.int .u32), (.int .u32), (.int .u32), (.int .u32)]), (.cell .slice), (.cell (.int .i64))]) (X (.call 69 [(.agg ⟨[(.int .i64 x3_.1), (.int .i64 x3_.2.1), (.int .i64 x3_.2.2.1), (.int .i64 x3_.2.2.2.1), (.int .u32 x3_.2.2.2.2.1), (.int .u32 x3_.2.2.2.2.2.1), (.int .u32 x3_.2.2.2.2.2.2.1), (.int .u32 x3_.2.2.2.2.2.2.2.1), (.int .u32 x3_.2.2.2.2.2.2.2.2.1), (.int .u32 x3_.2.2.2.2.2.2.2.2.2.1), (.int .u32 x3_.2.2.2.2.2.2.2.2.2.2.1)]⟩), (.slice x.2.2.1.1 x.2.2.1.2.1 x.2.2.1.2.2)])) fun (r4_ : (Int × Int × Int × Int × Int × Int × Int × Int × Int × Int × Int × Unit) × (SL) × (Int) × Unit) =>
 f48c1 X L x b0_ j1_ r4_
def f48c3 (X : XT) (L : LoopI) (x : (PA) × (Int × Int × Int × Int × Int × Int × Int × Int × Int × Int × Int × Unit) × (SL) × (Bool) × Unit) (b0_ : Nat) (go2_ : ((Int) × Unit) → M (Value)) (x8_ : Int) : M (Value) :=
 M.callS (.one (.cell (.int .i64))) (X (.call 46 [(.int .i64 x8_)])) fun (r9_ : Int) =>
 M.ite (ltB 6 r9_)
 (M.load (.cell (.int .i64)) 1 ((Addr.mk b0_ 0 none).add 0) fun (x11_ : Int) =>
 M.guard (upB 6 x.2.2.1.2.1)
 (let v12_ : Nat := (Int.toNat 6)
 M.callS (.tuple [(.cell (.int .u32)), (.cell (.int .i64))]) (X (.call 68 [(.pointer x.1), (.int .i64 x11_), (.slice (x.2.2.1.1.map (·.add (v12_ * 1))) (x.2.2.1.2.1 - v12_) (x.2.2.1.2.2 - v12_)), (.bool false)])) fun (r13_ : (Int) × (Int) × Unit) =>
 M.ite (!(eqB r13_.2.1 0))
 (M.pure (.int .i64 r13_.2.1))
 (go2_ (r13_.1, ()))))
 (go2_ (0, ()))
def f48c4 (X : XT) (L : LoopI) (x : (PA) × (Int × Int × Int × Int × Int × Int × Int × Int × Int × Int × Int × Unit) × (SL) × (Bool) × Unit) : M (Value) :=
 M.new (.cells (Row.ofList [(.int .i64 x.2.1.1), (.int .i64 x.2.1.2.1), (.int .i64 x.2.1.2.2.1), (.int .i64 x.2.1.2.2.2.1), (.int .u32 x.2.1.2.2.2.2.1), (.int .u32 x.2.1.2.2.2.2.2.1), (.int .u32 x.2.1.2.2.2.2.2.2.1), (.int .u32 x.2.1.2.2.2.2.2.2.2.1), (.int .u32 x.2.1.2.2.2.2.2.2.2.2.1), (.int .u32 x.2.1.2.2.2.2.2.2.2.2.2.1), (.int .u32 x.2.1.2.2.2.2.2.2.2.2.2.2.1)]) 76 false (0, 0) false) fun b0_ =>
 M.join (fun (j1_ : (Int) × Unit) =>
 M.load (.agg [(.int .i64), (.int .i64), (.int .i64), (.int .i64), (.int .u32), (.int .u32), (.int .u32), (.int .u32), (.int .u32), (.int .u32), (.int .u32)]) 11 (Addr.mk b0_ 0 none) fun (x3_ : Int × Int × Int × Int × Int × Int × Int × Int × Int × Int × Int × Unit) =>
 f48c2 X L x b0_ j1_ x3_) fun go2_ =>
 M.load (.cell (.int .i64)) 1 ((Addr.mk b0_ 0 none).add 2) fun (x8_ : Int) =>
 f48c3 X L x b0_ go2_ x8_
def f48 (X : XT) (L : LoopI) (x : (PA) × (Int × Int × Int × Int × Int × Int × Int × Int × Int × Int × Int × Unit) × (SL) × (Bool) × Unit) : M Value :=
 f48c4 X L x

theorem e48 (X : XT) (L : LoopI) (x : (PA) × (Int × Int × Int × Int × Int × Int × Int × Int × Int × Int × Int × Unit) × (SL) × (Bool) × Unit) : evBody CC { call := X, loop := L } 48 (shsInj [(.cell .ptr), (.agg [(.int .i64), (.int .i64), (.int .i64), (.int .i64), (.int .u32), (.int .u32), (.int .u32), (.int .u32), (.int .u32), (.int .u32), (.int .u32)]), (.cell .slice), (.cell .bool)] x) = f48 X L x := by kernel_rfl

/-- hayrick/hayrickref11.May -/
def f49c0 (X : XT) (L : LoopI) (b0_ : Nat) (r7_ : Int) : M (Value) :=
 M.bind (L (σ := (Int) × Unit) (ρ := (Unit) ⊕ (((Bool) × Unit) ⊕ (Unit))) (fun s8_ =>
 M.ite (ltB s8_.1 6)
 (M.join (fun (j10_ : (Bool) × Unit) =>
 M.ite j10_.1
 (M.pure (.inr (.inr (.inl (false, ())))))
 (M.pure (.inl ((addW .i64 s8_.1 1), ())))) fun go11_ =>
 M.ite (leB r7_ s8_.1)
 (M.guard (inB s8_.1 6)
 (M.load (.cell (.int .u32)) 1 (((Addr.mk b0_ 0 none).add 4).add ((Int.toNat s8_.1) * 1)) fun (x14_ : Int) =>
 go11_ ((!(eqB x14_ 0)), ())))
 (go11_ (false, ())))
 (M.pure (.inr (.inl (()))))) (0, ())) <| M.sum (fun (j16_ : Unit) =>
 M.join (fun (j17_ : (Bool) × Unit) =>
 M.pure (.bool j17_.1)) fun go18_ =>
 M.ite (ltB 6 r7_)
 (go18_ (true, ()))
 (M.load (.cell (.int .u32)) 1 ((Addr.mk b0_ 0 none).add 10) fun (x20_ : Int) =>
 go18_ ((eqB x20_ 0), ()))) (M.sum (fun (j22_ : (Bool) × Unit) =>
 M.pure (.bool j22_.1)) (fun _ => M.stuck))
def f49c1 (X : XT) (L : LoopI) (b0_ : Nat) (go5_ : (Unit) → M (Value)) (v32_ : Bool) : M (Value) :=
 M.ite v32_
 (M.join (fun (j33_ : (Bool) × Unit) =>
 M.ite j33_.1
 (M.pure (.bool false))
 (go5_ (()))) fun go34_ =>
 M.load (.cell (.int .i64)) 1 ((Addr.mk b0_ 0 none).add 2) fun (x35_ : Int) =>
 M.ite (ltB 1792 x35_)
 (go34_ (true, ()))
 (M.load (.cell (.int .i64)) 1 ((Addr.mk b0_ 0 none).add 2) fun (x37_ : Int) =>
 M.guard (!(decide (28 = 0)))
 (M.ite (!(eqB ((x37_ : Int).tmod 28) 0))
 (go34_ (true, ()))
 (M.load (.cell (.int .i64)) 1 ((Addr.mk b0_ 0 none).add 3) fun (x40_ : Int) =>
 go34_ ((!(eqB x40_ 1)), ())))))
 (M.pure (.bool false))
def f49c2 (X : XT) (L : LoopI) (b0_ : Nat) (x3_ : Int) : M (Value) :=
 M.join (fun (j4_ : Unit) =>
 M.load (.cell (.int .i64)) 1 ((Addr.mk b0_ 0 none).add 2) fun (x6_ : Int) =>
 M.callS (.one (.cell (.int .i64))) (X (.call 71 [(.int .i64 x6_)])) fun (r7_ : Int) =>
 f49c0 X L b0_ r7_) fun go5_ =>
 M.ite (eqB x3_ 1)
 (M.join (fun (j24_ : (Bool) × Unit) =>
 M.ite j24_.1
 (M.pure (.bool false))
 (go5_ (()))) fun go25_ =>
 M.load (.cell (.int .i64)) 1 ((Addr.mk b0_ 0 none).add 2) fun (x26_ : Int) =>
 M.ite (ltB 3808 x26_)
 (go25_ (true, ()))
 (M.load (.cell (.int .i64)) 1 ((Addr.mk b0_ 0 none).add 3) fun (x28_ : Int) =>
 M.ite (ltB x28_ 1)
 (go25_ (true, ()))
 (M.load (.cell (.int .i64)) 1 ((Addr.mk b0_ 0 none).add 3) fun (x30_ : Int) =>
 go25_ ((ltB 64 x30_), ()))))
 (f49c1 X L b0_ go5_ (eqB x3_ 2))
def f49c3 (X : XT) (L : LoopI) (b0_ : Nat) : M (Value) :=
 M.join (fun (j1_ : (Bool) × Unit) =>
 M.ite j1_.1
 (M.pure (.bool false))
 (M.load (.cell (.int .i64)) 1 ((Addr.mk b0_ 0 none).add 1) fun (x3_ : Int) =>
 f49c2 X L b0_ x3_)) fun go2_ =>
 M.load (.cell (.int .i64)) 1 ((Addr.mk b0_ 0 none).add 0) fun (x42_ : Int) =>
 M.ite (ltB x42_ 1)
 (go2_ (true, ()))
 (M.load (.cell (.int .i64)) 1 ((Addr.mk b0_ 0 none).add 0) fun (x44_ : Int) =>
 M.ite (ltB 64 x44_)
 (go2_ (true, ()))
 (M.load (.cell (.int .i64)) 1 ((Addr.mk b0_ 0 none).add 2) fun (x46_ : Int) =>
 go2_ ((ltB x46_ 0), ())))
def f49 (X : XT) (L : LoopI) (x : (Int × Int × Int × Int × Int × Int × Int × Int × Int × Int × Int × Unit) × Unit) : M Value :=
 M.new (.cells (Row.ofList [(.int .i64 x.1.1), (.int .i64 x.1.2.1), (.int .i64 x.1.2.2.1), (.int .i64 x.1.2.2.2.1), (.int .u32 x.1.2.2.2.2.1), (.int .u32 x.1.2.2.2.2.2.1), (.int .u32 x.1.2.2.2.2.2.2.1), (.int .u32 x.1.2.2.2.2.2.2.2.1), (.int .u32 x.1.2.2.2.2.2.2.2.2.1), (.int .u32 x.1.2.2.2.2.2.2.2.2.2.1), (.int .u32 x.1.2.2.2.2.2.2.2.2.2.2.1)]) 76 false (0, 0) false) fun b0_ =>
 f49c3 X L b0_

theorem e49 (X : XT) (L : LoopI) (x : (Int × Int × Int × Int × Int × Int × Int × Int × Int × Int × Int × Unit) × Unit) : evBody CC { call := X, loop := L } 49 (shsInj [(.agg [(.int .i64), (.int .i64), (.int .i64), (.int .i64), (.int .u32), (.int .u32), (.int .u32), (.int .u32), (.int .u32), (.int .u32), (.int .u32)])] x) = f49 X L x := by kernel_rfl

/-- (*hayrick/hayrickref18.Store).Data -/
def f50 (X : XT) (L : LoopI) (x : (PA) × (Int) × (Int) × (SL) × (Bool) × Unit) : M Value :=
 M.deref x.1 fun a0_ =>
 M.load (.cell .ptr) 1 (a0_.add 0) fun (x1_ : PA) =>
 M.callS (.tuple [(.cell (.int .u32)), (.cell (.int .i64))]) (X (.call 72 [(.pointer x1_), (.agg ⟨[(.int .i64 1), (.bool x.2.2.2.2.1), (.int .i64 x.2.1), (.int .i64 x.2.2.1)]⟩), (.slice x.2.2.2.1.1 x.2.2.2.1.2.1 x.2.2.2.1.2.2)])) fun (r2_ : (Int) × (Int) × Unit) =>
 M.pure (.tuple ⟨[(.int .u32 r2_.1), (.int .i64 r2_.2.1)]⟩)

theorem e50 (X : XT) (L : LoopI) (x : (PA) × (Int) × (Int) × (SL) × (Bool) × Unit) : evBody CC { call := X, loop := L } 50 (shsInj [(.cell .ptr), (.cell (.int .i64)), (.cell (.int .i64)), (.cell .slice), (.cell .bool)] x) = f50 X L x := by kernel_rfl

/-- hayrick/hayrickref19.save -/
def f51c0 (X : XT) (L : LoopI) (x : (PA) × (Int × Int × Int × Int × Int × Int × Int × Int × Int × Int × Int × Unit) × (Int) × (SL) × (Bool) × Unit) (s2_ : (SL) × (Int) × Unit) : M (((SL) × (Int) × Unit) ⊕ (((SL) × Unit) ⊕ (Unit))) :=
 M.join (fun (j4_ : (Int) × Unit) =>
 M.new (.cells (Row.ofList [(.int .u32 j4_.1)]) 73 false (0, 0) false) fun b6_ =>
 M.append 73 1 4 s2_.1.1 s2_.1.2.1 s2_.1.2.2 (.slice (some (Addr.mk b6_ 0 none)) 1 1) fun a7_ n8_ c9_ =>
 M.pure (.inl ((a7_, n8_, c9_), (addW .i64 s2_.2.1 1), ()))) fun go5_ =>
 M.ite (ltB s2_.2.1 ((x.2.2.2.1.2.1 : Nat) : Int))
 (M.guard (inB s2_.2.1 x.2.2.2.1.2.1)
 (M.deref x.2.2.2.1.1 fun a13_ =>
 M.load (.cell (.int .u32)) 1 (a13_.add ((Int.toNat s2_.2.1) * 1)) fun (x14_ : Int) =>
 go5_ (x14_, ())))
 (go5_ (0, ()))
def f51c1 (X : XT) (L : LoopI) (x : (PA) × (Int × Int × Int × Int × Int × Int × Int × Int × Int × Int × Int × Unit) × (Int) × (SL) × (Bool) × Unit) (b19_ : Nat) : M (Value) :=
 M.load (.agg [(.int .i64), (.int .i64), (.int .i64), (.int .i64), (.int .u32), (.int .u32), (.int .u32), (.int .u32), (.int .u32), (.int .u32), (.int .u32)]) 11 (Addr.mk b19_ 0 none) fun (x31_ : Int × Int × Int × Int × Int × Int × Int × Int × Int × Int × Int × Unit) =>
 M.callS (.one (.cell (.int .i64))) (X (.call 74 [(.pointer x.1), (.agg ⟨[(.int .i64 x31_.1), (.int .i64 x31_.2.1), (.int .i64 x31_.2.2.1), (.int .i64 x31_.2.2.2.1), (.int .u32 x31_.2.2.2.2.1), (.int .u32 x31_.2.2.2.2.2.1), (.int .u32 x31_.2.2.2.2.2.2.1), (.int .u32 x31_.2.2.2.2.2.2.2.1), (.int .u32 x31_.2.2.2.2.2.2.2.2.1), (.int .u32 x31_.2.2.2.2.2.2.2.2.2.1), (.int .u32 x31_.2.2.2.2.2.2.2.2.2.2.1)]⟩), (.bool x.2.2.2.2.1)])) fun (r32_ : Int) =>
 M.pure (.int .i64 r32_)
def f51c2 (X : XT) (L : LoopI) (x : (PA) × (Int × Int × Int × Int × Int × Int × Int × Int × Int × Int × Int × Unit) × (Int) × (SL) × (Bool) × Unit) (b0_ : Nat) (j15_ : (SL) × Unit) (b19_ : Nat) (go30_ : (Unit) → M (Value)) : M (Value) :=
 M.load (.cell (.int .i64)) 1 ((Addr.mk b0_ 0 none).add 0) fun (x34_ : Int) =>
 M.guard (upB 6 j15_.1.2.1)
 (let v35_ : Nat := (Int.toNat 6)
 M.callS (.tuple [(.cell (.int .u32)), (.cell (.int .i64))]) (X (.call 73 [(.pointer x.1), (.int .i64 x34_), (.slice (j15_.1.1.map (·.add (v35_ * 1))) (j15_.1.2.1 - v35_) (j15_.1.2.2 - v35_)), (.bool false)])) fun (r36_ : (Int) × (Int) × Unit) =>
 M.ite (!(eqB r36_.2.1 0))
 (M.pure (.int .i64 r36_.2.1))
 (M.store ((Addr.mk b19_ 0 none).add 10) [(.int .u32 r36_.1)]
 (go30_ (()))))
def f51c3 (X : XT) (L : LoopI) (x : (PA) × (Int × Int × Int × Int × Int × Int × Int × Int × Int × Int × Int × Unit) × (Int) × (SL) × (Bool) × Unit) (b0_ : Nat) (r1_ : Int) (j15_ : (SL) × Unit) (b19_ : Nat) : M (Value) :=
 M.bind (L (σ := (Int) × Unit) (ρ := (Unit) ⊕ (Unit)) (fun s20_ =>
 M.join (fun (j21_ : (Bool) × Unit) =>
 M.ite j21_.1
 (M.guard (inB s20_.1 j15_.1.2.1)
 (M.deref j15_.1.1 fun a23_ =>
 M.load (.cell (.int .u32)) 1 (a23_.add ((Int.toNat s20_.1) * 1)) fun (x24_ : Int) =>
 M.guard (inB s20_.1 6)
 (M.store (((Addr.mk b19_ 0 none).add 4).add ((Int.toNat s20_.1) * 1)) [(.int .u32 x24_)]
 (M.pure (.inl ((addW .i64 s20_.1 1), ()))))))
 (M.pure (.inr (.inl (()))))) fun go22_ =>
 M.ite (ltB s20_.1 r1_)
 (go22_ ((ltB s20_.1 6), ()))
 (go22_ (false, ()))) (0, ())) <| M.sum (fun (j28_ : Unit) =>
 M.join (fun (j29_ : Unit) =>
 f51c1 X L x b19_) fun go30_ =>
 M.ite (ltB 6 r1_)
 (f51c2 X L x b0_ j15_ b19_ go30_)
 (go30_ (()))) (fun _ => M.stuck)
def f51c4 (X : XT) (L : LoopI) (x : (PA) × (Int × Int × Int × Int × Int × Int × Int × Int × Int × Int × Int × Unit) × (Int) × (SL) × (Bool) × Unit) (b0_ : Nat) (r1_ : Int) (j15_ : (SL) × Unit) (x16_ : Int) (x17_ : Int) : M (Value) :=
 M.load (.cell (.int .i64)) 1 ((Addr.mk b0_ 0 none).add 3) fun (x18_ : Int) =>
 M.new (.cells (Row.ofList [(.int .i64 0), (.int .i64 0), (.int .i64 0), (.int .i64 0), (.int .u32 0), (.int .u32 0), (.int .u32 0), (.int .u32 0), (.int .u32 0), (.int .u32 0), (.int .u32 0)]) 76 false (0, 0) false) fun b19_ =>
 M.store (Addr.mk b19_ 0 none) [(.int .i64 x16_), (.int .i64 x17_), (.int .i64 x.2.2.1), (.int .i64 x18_), (.int .u32 0), (.int .u32 0), (.int .u32 0), (.int .u32 0), (.int .u32 0), (.int .u32 0), (.int .u32 0)]
 (f51c3 X L x b0_ r1_ j15_ b19_)
def f51c5 (X : XT) (L : LoopI) (x : (PA) × (Int × Int × Int × Int × Int × Int × Int × Int × Int × Int × Int × Unit) × (Int) × (SL) × (Bool) × Unit) (b0_ : Nat) : M (Value) :=
 M.callS (.one (.cell (.int .i64))) (X (.call 71 [(.int .i64 x.2.2.1)])) fun (r1_ : Int) =>
 M.bind (L (σ := (SL) × (Int) × Unit) (ρ := ((SL) × Unit) ⊕ (Unit)) (fun s2_ =>
 M.ite (ltB s2_.2.1 r1_)
 (f51c0 X L x s2_)
 (M.pure (.inr (.inl (s2_.1, ()))))) ((none, 0, 0), 0, ())) <| M.sum (fun (j15_ : (SL) × Unit) =>
 M.load (.cell (.int .i64)) 1 ((Addr.mk b0_ 0 none).add 0) fun (x16_ : Int) =>
 M.load (.cell (.int .i64)) 1 ((Addr.mk b0_ 0 none).add 1) fun (x17_ : Int) =>
 f51c4 X L x b0_ r1_ j15_ x16_ x17_) (fun _ => M.stuck)
def f51 (X : XT) (L : LoopI) (x : (PA) × (Int × Int × Int × Int × Int × Int × Int × Int × Int × Int × Int × Unit) × (Int) × (SL) × (Bool) × Unit) : M Value :=
 M.new (.cells (Row.ofList [(.int .i64 x.2.1.1), (.int .i64 x.2.1.2.1), (.int .i64 x.2.1.2.2.1), (.int .i64 x.2.1.2.2.2.1), (.int .u32 x.2.1.2.2.2.2.1), (.int .u32 x.2.1.2.2.2.2.2.1), (.int .u32 x.2.1.2.2.2.2.2.2.1), (.int .u32 x.2.1.2.2.2.2.2.2.2.1), (.int .u32 x.2.1.2.2.2.2.2.2.2.2.1), (.int .u32 x.2.1.2.2.2.2.2.2.2.2.2.1), (.int .u32 x.2.1.2.2.2.2.2.2.2.2.2.2.1)]) 76 false (0, 0) false) fun b0_ =>
 f51c5 X L x b0_

theorem e51 (X : XT) (L : LoopI) (x : (PA) × (Int × Int × Int × Int × Int × Int × Int × Int × Int × Int × Int × Unit) × (Int) × (SL) × (Bool) × Unit) : evBody CC { call := X, loop := L } 51 (shsInj [(.cell .ptr), (.agg [(.int .i64), (.int .i64), (.int .i64), (.int .i64), (.int .u32), (.int .u32), (.int .u32), (.int .u32), (.int .u32), (.int .u32), (.int .u32)]), (.cell (.int .i64)), (.cell .slice), (.cell .bool)] x) = f51 X L x := by kernel_rfl

/-- hayrick/entry.Put -/
def f52c0 (X : XT) (L : LoopI) (v3_ : Int) (b4_ : Nat) (s6_ : (Int) × Unit) (b10_ : Nat) (v12_ : Nat) (x18_ : ByteArray) (v20_ : Int) : M (((Int) × Unit) ⊕ ((Unit) ⊕ (Unit))) :=
 M.load (.cell .string) 1 ((Addr.mk b10_ 0 none).add 1) fun (x23_ : ByteArray) => cond (veqv (.string x23_) (.string x18_)) (M.guard (inB 2 ((Int.toNat v3_) - v12_))
 (M.store (((Addr.mk b4_ 0 none).add (v12_ * 1)).add ((Int.toNat 2) * 1)) [(.int .u8 v20_)]
 (M.guard (upB 3 ((Int.toNat v3_) - v12_))
 (let v24_ : Nat := (Int.toNat 3)
 M.load (.cell .string) 1 ((Addr.mk b10_ 0 none).add 1) fun (x25_ : ByteArray) =>
 M.copy 1 (some (((Addr.mk b4_ 0 none).add (v12_ * 1)).add (v24_ * 1))) (((Int.toNat v3_) - v12_) - v24_) (.string x25_) fun m26_ =>
 M.pure (.inl ((addW .i64 s6_.1 1), ())))))) M.stuck
def f52c1 (X : XT) (L : LoopI) (v3_ : Int) (b4_ : Nat) (s6_ : (Int) × Unit) (b10_ : Nat) (v12_ : Nat) (v15_ : Int) (x16_ : Int) (v17_ : Int) (x18_ : ByteArray) (v20_ : Int) : M (((Int) × Unit) ⊕ ((Unit) ⊕ (Unit))) :=
 M.store (((Addr.mk b4_ 0 none).add (v12_ * 1)).add ((Int.toNat 0) * 1)) [(.int .u8 v15_)]
 (M.load (.cell .string) 1 ((Addr.mk b10_ 0 none).add 1) fun (x21_ : ByteArray) => cond (veqv (.string x21_) (.string x18_)) (M.load (.cell (.int .i64)) 1 ((Addr.mk b10_ 0 none).add 0) fun (x22_ : Int) => cond (veqv (.int .i64 x22_) (.int .i64 x16_)) (M.guard (inB 1 ((Int.toNat v3_) - v12_))
 (M.store (((Addr.mk b4_ 0 none).add (v12_ * 1)).add ((Int.toNat 1) * 1)) [(.int .u8 v17_)]
 (f52c0 X L v3_ b4_ s6_ b10_ v12_ x18_ v20_))) M.stuck) M.stuck)
def f52c2 (X : XT) (L : LoopI) (v3_ : Int) (b4_ : Nat) (s6_ : (Int) × Unit) (b10_ : Nat) (v11_ : Int) : M (((Int) × Unit) ⊕ ((Unit) ⊕ (Unit))) :=
 M.guard (upB v11_ (Int.toNat v3_))
 (let v12_ : Nat := (Int.toNat v11_)
 M.load (.cell (.int .i64)) 1 ((Addr.mk b10_ 0 none).add 0) fun (x13_ : Int) =>
 M.guard (decide (0 ≤ 8))
 (M.load (.cell (.int .i64)) 1 ((Addr.mk b10_ 0 none).add 0) fun (x16_ : Int) =>
 M.load (.cell .string) 1 ((Addr.mk b10_ 0 none).add 1) fun (x18_ : ByteArray) =>
 M.guard (inB 0 ((Int.toNat v3_) - v12_))
 (f52c1 X L v3_ b4_ s6_ b10_ v12_ (wrapW .u8 (((x13_ : Int)).fdiv (2 ^ (min (Int.toNat 8) IntKind.i64.bits)))) x16_ (wrapW .u8 x16_) x18_ (wrapW .u8 ((x18_.size : Nat) : Int)))))
def f52c3 (X : XT) (L : LoopI) (x : (SL) × Unit) (v3_ : Int) (b4_ : Nat) (v5_ : Int) : M (Value) :=
 M.bind (L (σ := (Int) × Unit) (ρ := (Unit) ⊕ (Unit)) (fun s6_ =>
 M.ite (ltB s6_.1 v5_)
 (M.guard (inB s6_.1 x.1.2.1)
 (M.deref x.1.1 fun a8_ =>
 M.load (.agg [(.int .i64), .string]) 2 (a8_.add ((Int.toNat s6_.1) * 2)) fun (x9_ : Int × ByteArray × Unit) =>
 M.new (.cells (Row.ofList [(.int .i64 0), (.string st0)]) 47 false (0, 0) false) fun b10_ =>
 M.store (Addr.mk b10_ 0 none) [(.int .i64 x9_.1), (.string x9_.2.1)]
 (f52c2 X L v3_ b4_ s6_ b10_ (mulW .i64 s6_.1 28))))
 (M.pure (.inr (.inl (()))))) (0, ())) <| M.sum (fun (j28_ : Unit) =>
 M.pure (.tuple ⟨[(.slice (some (Addr.mk b4_ 0 none)) (Int.toNat v3_) (Int.toNat v3_)), (.int .i64 0)]⟩)) (fun _ => M.stuck)
def f52 (X : XT) (L : LoopI) (x : (SL) × Unit) : M Value :=
 M.callS (.one (.cell .bool)) (X (.call 75 [(.slice x.1.1 x.1.2.1 x.1.2.2)])) fun (r0_ : Bool) =>
 M.ite (!r0_)
 (M.pure (.tuple ⟨[(.slice none 0 0), (.int .i64 1)]⟩))
 (let v3_ : Int := mulW .i64 ((x.1.2.1 : Nat) : Int) 28
 M.guard (decide (0 ≤ v3_) && decide (v3_ ≤ v3_) && decide ((1 : Int) * v3_ ≤ 2 ^ 48))
 (M.new (.cells (Row.rep [(.int .u8 0)] (Int.toNat v3_)) 5 false (0, 0) false) fun b4_ =>
 f52c3 X L x v3_ b4_ ((x.1.2.1 : Nat) : Int)))

theorem e52 (X : XT) (L : LoopI) (x : (SL) × Unit) : evBody CC { call := X, loop := L } 52 (shsInj [(.cell .slice)] x) = f52 X L x := by kernel_rfl

/-- hayrick/hayrickref12.Put -/
def f53c0 (X : XT) (L : LoopI) (x : (SL) × Unit) (s2_ : (SL) × (Int) × Unit) (b5_ : Nat) (s18_ : (Int) × Unit) (a19_ : Addr) : M (((Int) × Unit) ⊕ ((Unit) ⊕ (Unit))) :=
 M.load (.cell .string) 1 ((a19_.add ((Int.toNat s2_.2.1) * 2)).add 1) fun (x20_ : ByteArray) =>
 M.ite (ltB s18_.1 ((x20_.size : Nat) : Int))
 (let v23_ : Int := addW .i64 3 s18_.1
 M.guard (inB s2_.2.1 x.1.2.1)
 (M.deref x.1.1 fun a24_ =>
 M.load (.cell .string) 1 ((a24_.add ((Int.toNat s2_.2.1) * 2)).add 1) fun (x25_ : ByteArray) =>
 M.guard (inB s18_.1 x25_.size)
 (M.guard (inB v23_ (Int.toNat 28))
 (M.store ((Addr.mk b5_ 0 none).add ((Int.toNat v23_) * 1)) [(.int .u8 (byteAt x25_ s18_.1))]
 (M.pure (.inl ((addW .i64 s18_.1 1), ())))))))
 (M.pure (.inr (.inl (()))))
def f53c1 (X : XT) (L : LoopI) (x : (SL) × Unit) (s2_ : (SL) × (Int) × Unit) (b5_ : Nat) (v17_ : Int) : M (((SL) × (Int) × Unit) ⊕ (((SL) × Unit) ⊕ (Unit))) :=
 M.guard (inB 2 (Int.toNat 28))
 (M.store ((Addr.mk b5_ 0 none).add ((Int.toNat 2) * 1)) [(.int .u8 v17_)]
 (M.bind (L (σ := (Int) × Unit) (ρ := (Unit) ⊕ (Unit)) (fun s18_ =>
 M.guard (inB s2_.2.1 x.1.2.1)
 (M.deref x.1.1 fun a19_ =>
 f53c0 X L x s2_ b5_ s18_ a19_)) (0, ())) <| M.sum (fun (j28_ : Unit) =>
 M.append 5 1 1 s2_.1.1 s2_.1.2.1 s2_.1.2.2 (.slice (some (Addr.mk b5_ 0 none)) (Int.toNat 28) (Int.toNat 28)) fun a29_ n30_ c31_ =>
 M.pure (.inl ((a29_, n30_, c31_), (addW .i64 s2_.2.1 1), ()))) (fun _ => M.stuck)))
def f53c2 (X : XT) (L : LoopI) (x : (SL) × Unit) (s2_ : (SL) × (Int) × Unit) (b5_ : Nat) : M (((SL) × (Int) × Unit) ⊕ (((SL) × Unit) ⊕ (Unit))) :=
 M.guard (inB s2_.2.1 x.1.2.1)
 (M.deref x.1.1 fun a10_ =>
 M.load (.cell (.int .i64)) 1 ((a10_.add ((Int.toNat s2_.2.1) * 2)).add 0) fun (x11_ : Int) =>
 M.guard (!(decide (256 = 0)))
 (M.guard (inB 1 (Int.toNat 28))
 (M.store ((Addr.mk b5_ 0 none).add ((Int.toNat 1) * 1)) [(.int .u8 (wrapW .u8 ((x11_ : Int).tmod 256)))]
 (M.guard (inB s2_.2.1 x.1.2.1)
 (M.deref x.1.1 fun a14_ =>
 M.load (.cell .string) 1 ((a14_.add ((Int.toNat s2_.2.1) * 2)).add 1) fun (x15_ : ByteArray) =>
 f53c1 X L x s2_ b5_ (wrapW .u8 ((x15_.size : Nat) : Int)))))))
def f53c3 (X : XT) (L : LoopI) (x : (SL) × Unit) (s2_ : (SL) × (Int) × Unit) : M (((SL) × (Int) × Unit) ⊕ (((SL) × Unit) ⊕ (Unit))) :=
 M.guard (decide (0 ≤ 28) && decide (28 ≤ 28) && decide ((1 : Int) * 28 ≤ 2 ^ 48))
 (M.new (.cells (Row.rep [(.int .u8 0)] (Int.toNat 28)) 5 false (0, 0) false) fun b5_ =>
 M.guard (inB s2_.2.1 x.1.2.1)
 (M.deref x.1.1 fun a6_ =>
 M.load (.cell (.int .i64)) 1 ((a6_.add ((Int.toNat s2_.2.1) * 2)).add 0) fun (x7_ : Int) =>
 M.guard (!(decide (256 = 0)))
 (M.guard (inB 0 (Int.toNat 28))
 (M.store ((Addr.mk b5_ 0 none).add ((Int.toNat 0) * 1)) [(.int .u8 (wrapW .u8 (IntKind.i64.wrap ((x7_ : Int).tdiv 256))))]
 (f53c2 X L x s2_ b5_)))))
def f53 (X : XT) (L : LoopI) (x : (SL) × Unit) : M Value :=
 M.callS (.one (.cell .bool)) (X (.call 76 [(.slice x.1.1 x.1.2.1 x.1.2.2)])) fun (r0_ : Bool) =>
 M.ite (!r0_)
 (M.pure (.tuple ⟨[(.slice none 0 0), (.int .i64 1)]⟩))
 (M.bind (L (σ := (SL) × (Int) × Unit) (ρ := ((SL) × Unit) ⊕ (Unit)) (fun s2_ =>
 M.ite (ltB s2_.2.1 ((x.1.2.1 : Nat) : Int))
 (f53c3 X L x s2_)
 (M.pure (.inr (.inl (s2_.1, ()))))) ((none, 0, 0), 0, ())) <| M.sum (fun (j33_ : (SL) × Unit) =>
 M.pure (.tuple ⟨[(.slice j33_.1.1 j33_.1.2.1 j33_.1.2.2), (.int .i64 0)]⟩)) (fun _ => M.stuck))

theorem e53 (X : XT) (L : LoopI) (x : (SL) × Unit) : evBody CC { call := X, loop := L } 53 (shsInj [(.cell .slice)] x) = f53 X L x := by kernel_rfl

/-- hayrick/dirs.in[int] -/
def f54c0 (X : XT) (L : LoopI) (x : (PA) × (Int) × (Value) × Unit) (r4_ : (SL) × (Int) × Unit) : M (Value) :=
 M.callS (.tuple [(.cell .slice), (.cell (.int .i64))]) (X (.call 78 [(.slice r4_.1.1 r4_.1.2.1 r4_.1.2.2)])) fun (r6_ : (SL) × (Int) × Unit) =>
 M.ite (!(eqB r6_.2.1 0))
 (M.pure (.tuple ⟨[(.int .i64 0), (.int .i64 r6_.2.1)]⟩))
 (callV CC ⟨X, L⟩ x.2.2.1 [(.slice r6_.1.1 r6_.1.2.1 r6_.1.2.2)] fun w9_ => M.need (RSh.prj (.tuple [(.cell (.int .i64)), (.cell (.int .i64))]) w9_) fun (r8_ : (Int) × (Int) × Unit) =>
 M.ite (!(eqB r8_.2.1 0))
 (M.pure (.tuple ⟨[(.int .i64 0), (.int .i64 r8_.2.1)]⟩))
 (M.pure (.tuple ⟨[(.int .i64 r8_.1), (.int .i64 0)]⟩)))
def f54c1 (X : XT) (L : LoopI) (x : (PA) × (Int) × (Value) × Unit) (r0_ : (Int × Int × Int × Int × Int × Int × Int × Int × Int × Int × Int × Unit) × (Int) × Unit) (b1_ : Nat) : M (Value) :=
 M.store (Addr.mk b1_ 0 none) [(.int .i64 r0_.1.1), (.int .i64 r0_.1.2.1), (.int .i64 r0_.1.2.2.1), (.int .i64 r0_.1.2.2.2.1), (.int .u32 r0_.1.2.2.2.2.1), (.int .u32 r0_.1.2.2.2.2.2.1), (.int .u32 r0_.1.2.2.2.2.2.2.1), (.int .u32 r0_.1.2.2.2.2.2.2.2.1), (.int .u32 r0_.1.2.2.2.2.2.2.2.2.1), (.int .u32 r0_.1.2.2.2.2.2.2.2.2.2.1), (.int .u32 r0_.1.2.2.2.2.2.2.2.2.2.2.1)]
 (M.ite (!(eqB r0_.2.1 0))
 (M.pure (.tuple ⟨[(.int .i64 0), (.int .i64 r0_.2.1)]⟩))
 (M.load (.cell (.int .i64)) 1 ((Addr.mk b1_ 0 none).add 2) fun (x3_ : Int) =>
 M.callS (.tuple [(.cell .slice), (.cell (.int .i64))]) (X (.call 77 [(.pointer x.1), (.int .i64 x.2.1), (.int .i64 0), (.int .i64 x3_)])) fun (r4_ : (SL) × (Int) × Unit) =>
 M.ite (!(eqB r4_.2.1 0))
 (M.pure (.tuple ⟨[(.int .i64 0), (.int .i64 r4_.2.1)]⟩))
 (f54c0 X L x r4_)))
def f54c2 (X : XT) (L : LoopI) (x : (PA) × (Int) × (Value) × Unit) : M (Value) :=
 M.callS (.tuple [(.agg [(.int .i64), (.int .i64), (.int .i64), (.int .i64), (.int .u32), (.int .u32), (.int .u32), (.int .u32), (.int .u32), (.int .u32), (.int .u32)]), (.cell (.int .i64))]) (X (.call 57 [(.pointer x.1), (.int .i64 x.2.1)])) fun (r0_ : (Int × Int × Int × Int × Int × Int × Int × Int × Int × Int × Int × Unit) × (Int) × Unit) =>
 M.new (.cells (Row.ofList [(.int .i64 0), (.int .i64 0), (.int .i64 0), (.int .i64 0), (.int .u32 0), (.int .u32 0), (.int .u32 0), (.int .u32 0), (.int .u32 0), (.int .u32 0), (.int .u32 0)]) 76 false (0, 0) false) fun b1_ =>
 f54c1 X L x r0_ b1_
def f54 (X : XT) (L : LoopI) (x : (PA) × (Int) × (Value) × Unit) : M Value :=
 f54c2 X L x

theorem e54 (X : XT) (L : LoopI) (x : (PA) × (Int) × (Value) × Unit) : evBody CC { call := X, loop := L } 54 (shsInj [(.cell .ptr), (.cell (.int .i64)), (.cell .val)] x) = f54 X L x := by kernel_rfl

/-- hayrick/dirs.Lookup$1 -/
def f55 (X : XT) (L : LoopI) (x : (SL) × (PA) × Unit) : M Value :=
 M.deref x.2.1 fun a0_ =>
 M.load (.cell .string) 1 a0_ fun (x1_ : ByteArray) =>
 M.callS (.tuple [(.cell (.int .i64)), (.cell .bool)]) (X (.call 56 [(.slice x.1.1 x.1.2.1 x.1.2.2), (.string x1_)])) fun (r2_ : (Int) × (Bool) × Unit) =>
 M.ite (!r2_.2.1)
 (M.pure (.tuple ⟨[(.int .i64 0), (.int .i64 32)]⟩))
 (M.guard (inB r2_.1 x.1.2.1)
 (M.deref x.1.1 fun a4_ =>
 M.load (.cell (.int .i64)) 1 ((a4_.add ((Int.toNat r2_.1) * 2)).add 0) fun (x5_ : Int) =>
 M.pure (.tuple ⟨[(.int .i64 x5_), (.int .i64 0)]⟩)))

theorem e55 (X : XT) (L : LoopI) (x : (SL) × (PA) × Unit) : evBody CC { call := X, loop := L } 55 (shsInj [(.cell .slice), (.cell .ptr)] x) = f55 X L x := by kernel_rfl

/-- hayrick/entry.Find -/
def f56c0 (X : XT) (L : LoopI) (x : (SL) × (ByteArray) × Unit) (b0_ : Nat) (r1_ : Int) : M (Value) :=
 M.guard (inB r1_ x.1.2.1)
 (M.deref x.1.1 fun a4_ =>
 M.load (.cell .string) 1 ((a4_.add ((Int.toNat r1_) * 2)).add 1) fun (x5_ : ByteArray) =>
 M.load (.cell .string) 1 (Addr.mk b0_ 0 none) fun (x6_ : ByteArray) =>
 M.load (.cell .string) 1 (Addr.mk b0_ 0 none) fun (x8_ : ByteArray) => cond (veqv (.string x8_) (.string x6_)) (M.load (.cell .string) 1 ((a4_.add ((Int.toNat r1_) * 2)).add 1) fun (x9_ : ByteArray) => cond (veqv (.string x9_) (.string x5_)) (M.pure (.tuple ⟨[(.int .i64 r1_), (.bool (seq x5_ x6_))]⟩)) M.stuck) M.stuck)
def f56 (X : XT) (L : LoopI) (x : (SL) × (ByteArray) × Unit) : M Value :=
 M.new (.cells (Row.ofList [(.string x.2.1)]) 9 false (0, 0) false) fun b0_ =>
 M.callS (.one (.cell (.int .i64))) (X (.call 79 [(.slice x.1.1 x.1.2.1 x.1.2.2), (.func (.func 80) ⟨[]⟩ ⟨[(.pointer (some (Addr.mk b0_ 0 none)))]⟩)])) fun (r1_ : Int) =>
 M.ite (ltB r1_ 0)
 (M.pure (.tuple ⟨[(.int .i64 ((x.1.2.1 : Nat) : Int)), (.bool false)]⟩))
 (f56c0 X L x b0_ r1_)

theorem e56 (X : XT) (L : LoopI) (x : (SL) × (ByteArray) × Unit) : evBody CC { call := X, loop := L } 56 (shsInj [(.cell .slice), (.cell .string)] x) = f56 X L x := by kernel_rfl

/-- hayrick/dirs.load -/
def f57c0 (X : XT) (L : LoopI) (b0_ : Nat) : M (Value) :=
 M.load (.agg [(.int .i64), (.int .i64), (.int .i64), (.int .i64), (.int .u32), (.int .u32), (.int .u32), (.int .u32), (.int .u32), (.int .u32), (.int .u32)]) 11 (Addr.mk b0_ 0 none) fun (x2_ : Int × Int × Int × Int × Int × Int × Int × Int × Int × Int × Int × Unit) =>
 M.pure (.tuple ⟨[(.agg ⟨[(.int .i64 x2_.1), (.int .i64 x2_.2.1), (.int .i64 x2_.2.2.1), (.int .i64 x2_.2.2.2.1), (.int .u32 x2_.2.2.2.2.1), (.int .u32 x2_.2.2.2.2.2.1), (.int .u32 x2_.2.2.2.2.2.2.1), (.int .u32 x2_.2.2.2.2.2.2.2.1), (.int .u32 x2_.2.2.2.2.2.2.2.2.1), (.int .u32 x2_.2.2.2.2.2.2.2.2.2.1), (.int .u32 x2_.2.2.2.2.2.2.2.2.2.2.1)]⟩), (.int .i64 2)]⟩)
def f57c1 (X : XT) (L : LoopI) (b0_ : Nat) (j5_ : (Int) × Unit) : M (Value) :=
 M.load (.agg [(.int .i64), (.int .i64), (.int .i64), (.int .i64), (.int .u32), (.int .u32), (.int .u32), (.int .u32), (.int .u32), (.int .u32), (.int .u32)]) 11 (Addr.mk b0_ 0 none) fun (x8_ : Int × Int × Int × Int × Int × Int × Int × Int × Int × Int × Int × Unit) =>
 M.pure (.tuple ⟨[(.agg ⟨[(.int .i64 x8_.1), (.int .i64 x8_.2.1), (.int .i64 x8_.2.2.1), (.int .i64 x8_.2.2.2.1), (.int .u32 x8_.2.2.2.2.1), (.int .u32 x8_.2.2.2.2.2.1), (.int .u32 x8_.2.2.2.2.2.2.1), (.int .u32 x8_.2.2.2.2.2.2.2.1), (.int .u32 x8_.2.2.2.2.2.2.2.2.1), (.int .u32 x8_.2.2.2.2.2.2.2.2.2.1), (.int .u32 x8_.2.2.2.2.2.2.2.2.2.2.1)]⟩), (.int .i64 j5_.1)]⟩)
def f57c2 (X : XT) (L : LoopI) (b0_ : Nat) (b4_ : Nat) (j5_ : (Int) × Unit) : M (Value) :=
 M.load (.agg [(.int .i64), (.int .i64), (.int .i64), (.int .i64), (.int .u32), (.int .u32), (.int .u32), (.int .u32), (.int .u32), (.int .u32), (.int .u32)]) 11 (Addr.mk b4_ 0 none) fun (x7_ : Int × Int × Int × Int × Int × Int × Int × Int × Int × Int × Int × Unit) =>
 M.store (Addr.mk b0_ 0 none) [(.int .i64 x7_.1), (.int .i64 x7_.2.1), (.int .i64 x7_.2.2.1), (.int .i64 x7_.2.2.2.1), (.int .u32 x7_.2.2.2.2.1), (.int .u32 x7_.2.2.2.2.2.1), (.int .u32 x7_.2.2.2.2.2.2.1), (.int .u32 x7_.2.2.2.2.2.2.2.1), (.int .u32 x7_.2.2.2.2.2.2.2.2.1), (.int .u32 x7_.2.2.2.2.2.2.2.2.2.1), (.int .u32 x7_.2.2.2.2.2.2.2.2.2.2.1)]
 (f57c1 X L b0_ j5_)
def f57c3 (X : XT) (L : LoopI) (b0_ : Nat) (r3_ : (Int × Int × Int × Int × Int × Int × Int × Int × Int × Int × Int × Unit) × (Int) × Unit) (b4_ : Nat) : M (Value) :=
 M.store (Addr.mk b4_ 0 none) [(.int .i64 r3_.1.1), (.int .i64 r3_.1.2.1), (.int .i64 r3_.1.2.2.1), (.int .i64 r3_.1.2.2.2.1), (.int .u32 r3_.1.2.2.2.2.1), (.int .u32 r3_.1.2.2.2.2.2.1), (.int .u32 r3_.1.2.2.2.2.2.2.1), (.int .u32 r3_.1.2.2.2.2.2.2.2.1), (.int .u32 r3_.1.2.2.2.2.2.2.2.2.1), (.int .u32 r3_.1.2.2.2.2.2.2.2.2.2.1), (.int .u32 r3_.1.2.2.2.2.2.2.2.2.2.2.1)]
 (M.join (fun (j5_ : (Int) × Unit) =>
 f57c2 X L b0_ b4_ j5_) fun go6_ =>
 M.join (fun (j9_ : (Bool) × Unit) =>
 M.ite j9_.1
 (go6_ (34, ()))
 (go6_ (r3_.2.1, ()))) fun go10_ =>
 M.ite (eqB r3_.2.1 0)
 (M.load (.cell (.int .i64)) 1 ((Addr.mk b4_ 0 none).add 1) fun (x12_ : Int) =>
 go10_ ((!(eqB x12_ 2)), ()))
 (go10_ (false, ())))
def f57c4 (X : XT) (L : LoopI) (x : (PA) × (Int) × Unit) (b0_ : Nat) : M (Value) :=
 M.callS (.tuple [(.agg [(.int .i64), (.int .i64), (.int .i64), (.int .i64), (.int .u32), (.int .u32), (.int .u32), (.int .u32), (.int .u32), (.int .u32), (.int .u32)]), (.cell (.int .i64))]) (X (.call 82 [(.pointer x.1), (.int .i64 x.2.1)])) fun (r3_ : (Int × Int × Int × Int × Int × Int × Int × Int × Int × Int × Int × Unit) × (Int) × Unit) =>
 M.new (.cells (Row.ofList [(.int .i64 0), (.int .i64 0), (.int .i64 0), (.int .i64 0), (.int .u32 0), (.int .u32 0), (.int .u32 0), (.int .u32 0), (.int .u32 0), (.int .u32 0), (.int .u32 0)]) 76 false (0, 0) false) fun b4_ =>
 f57c3 X L b0_ r3_ b4_
def f57c5 (X : XT) (L : LoopI) (x : (PA) × (Int) × Unit) : M (Value) :=
 M.new (.cells (Row.ofList [(.int .i64 0), (.int .i64 0), (.int .i64 0), (.int .i64 0), (.int .u32 0), (.int .u32 0), (.int .u32 0), (.int .u32 0), (.int .u32 0), (.int .u32 0), (.int .u32 0)]) 76 false (0, 0) false) fun b0_ =>
 M.eqPtr x.1 none fun (q1_ : Bool) =>
 M.ite q1_
 (M.store (Addr.mk b0_ 0 none) [(.int .i64 0), (.int .i64 0), (.int .i64 0), (.int .i64 0), (.int .u32 0), (.int .u32 0), (.int .u32 0), (.int .u32 0), (.int .u32 0), (.int .u32 0), (.int .u32 0)]
 (f57c0 X L b0_))
 (f57c4 X L x b0_)
def f57 (X : XT) (L : LoopI) (x : (PA) × (Int) × Unit) : M Value :=
 f57c5 X L x

theorem e57 (X : XT) (L : LoopI) (x : (PA) × (Int) × Unit) : evBody CC { call := X, loop := L } 57 (shsInj [(.cell .ptr), (.cell (.int .i64))] x) = f57 X L x := by kernel_rfl

/-- unicode/utf8.decodeRuneInStringSlow -/
def f58c0 (X : XT) (L : LoopI) (v2_ : Int) (v19_ : Int) (v29_ : Int) (v43_ : Int) (j44_ : (Bool) × Unit) : M (Value) :=
 M.ite j44_.1
 (M.pure (.tuple ⟨[(.int .i32 65533), (.int .i64 1)]⟩))
 (M.guard (decide (0 ≤ 18))
 (M.guard (decide (0 ≤ 12))
 (M.guard (decide (0 ≤ 6))
 (M.pure (.tuple ⟨[(.int .i32 (orW .i32 (orW .i32 (orW .i32 (IntKind.i32.wrap ((wrapW .i32 (andW .u8 v2_ 7)) * 2 ^ (min (Int.toNat 18) IntKind.i32.bits))) (IntKind.i32.wrap ((wrapW .i32 (andW .u8 v19_ 63)) * 2 ^ (min (Int.toNat 12) IntKind.i32.bits)))) (IntKind.i32.wrap ((wrapW .i32 (andW .u8 v29_ 63)) * 2 ^ (min (Int.toNat 6) IntKind.i32.bits)))) (wrapW .i32 (andW .u8 v43_ 63)))), (.int .i64 4)]⟩)))))
def f58c1 (X : XT) (L : LoopI) (x : (ByteArray) × Unit) (v2_ : Int) (v19_ : Int) (v29_ : Int) (v32_ : Bool) : M (Value) :=
 M.ite v32_
 (M.guard (decide (0 ≤ 12))
 (M.guard (decide (0 ≤ 6))
 (M.pure (.tuple ⟨[(.int .i32 (orW .i32 (orW .i32 (IntKind.i32.wrap ((wrapW .i32 (andW .u8 v2_ 15)) * 2 ^ (min (Int.toNat 12) IntKind.i32.bits))) (IntKind.i32.wrap ((wrapW .i32 (andW .u8 v19_ 63)) * 2 ^ (min (Int.toNat 6) IntKind.i32.bits)))) (wrapW .i32 (andW .u8 v29_ 63)))), (.int .i64 3)]⟩))))
 (M.guard (inB 3 x.1.size)
 (let v43_ : Int := byteAt x.1 3
 M.join (fun (j44_ : (Bool) × Unit) =>
 f58c0 X L v2_ v19_ v29_ v43_ j44_) fun go45_ =>
 M.ite (ltB v43_ 128)
 (go45_ (true, ()))
 (go45_ ((ltB 191 v43_), ()))))
def f58c2 (X : XT) (L : LoopI) (x : (ByteArray) × Unit) (v2_ : Int) (v14_ : Int) (v19_ : Int) (v22_ : Bool) : M (Value) :=
 M.ite v22_
 (M.guard (decide (0 ≤ 6))
 (M.pure (.tuple ⟨[(.int .i32 (orW .i32 (IntKind.i32.wrap ((wrapW .i32 (andW .u8 v2_ 31)) * 2 ^ (min (Int.toNat 6) IntKind.i32.bits))) (wrapW .i32 (andW .u8 v19_ 63)))), (.int .i64 2)]⟩)))
 (M.guard (inB 2 x.1.size)
 (let v29_ : Int := byteAt x.1 2
 M.join (fun (j30_ : (Bool) × Unit) =>
 M.ite j30_.1
 (M.pure (.tuple ⟨[(.int .i32 65533), (.int .i64 1)]⟩))
 (f58c1 X L x v2_ v19_ v29_ (leB v14_ 3))) fun go31_ =>
 M.ite (ltB v29_ 128)
 (go31_ (true, ()))
 (go31_ ((ltB 191 v29_), ()))))
def f58c3 (X : XT) (L : LoopI) (x : (ByteArray) × Unit) (v2_ : Int) (v14_ : Int) (b17_ : Nat) (v18_ : Bool) : M (Value) :=
 M.ite v18_
 (M.pure (.tuple ⟨[(.int .i32 65533), (.int .i64 1)]⟩))
 (M.guard (inB 1 x.1.size)
 (let v19_ : Int := byteAt x.1 1
 M.join (fun (j20_ : (Bool) × Unit) =>
 M.ite j20_.1
 (M.pure (.tuple ⟨[(.int .i32 65533), (.int .i64 1)]⟩))
 (f58c2 X L x v2_ v14_ v19_ (leB v14_ 2))) fun go21_ =>
 M.load (.cell (.int .u8)) 1 ((Addr.mk b17_ 0 none).add 0) fun (x64_ : Int) =>
 M.ite (ltB v19_ x64_)
 (go21_ (true, ()))
 (M.load (.cell (.int .u8)) 1 ((Addr.mk b17_ 0 none).add 1) fun (x66_ : Int) =>
 go21_ ((ltB x66_ v19_), ()))))
def f58c4 (X : XT) (L : LoopI) (x : (ByteArray) × Unit) (v0_ : Int) (v2_ : Int) (x3_ : Int) : M (Value) :=
 let v14_ : Int := wrapW .i64 (andW .u8 x3_ 7)
 M.guard (decide (0 ≤ 4))
 (let v15_ : Int := ((x3_ : Int)).fdiv (2 ^ (min (Int.toNat 4) IntKind.u8.bits))
 M.guard (inB v15_ 16)
 (M.load (.agg [(.int .u8), (.int .u8)]) 2 ((Addr.mk 1 0 none).add ((Int.toNat v15_) * 2)) fun (x16_ : Int × Int × Unit) =>
 M.new (.cells (Row.ofList [(.int .u8 0), (.int .u8 0)]) 157 false (0, 0) false) fun b17_ =>
 M.store (Addr.mk b17_ 0 none) [(.int .u8 x16_.1), (.int .u8 x16_.2.1)]
 (f58c3 X L x v2_ v14_ b17_ (ltB v0_ v14_))))
def f58c5 (X : XT) (L : LoopI) (x : (ByteArray) × Unit) (v0_ : Int) (v2_ : Int) : M (Value) :=
 M.load (.cell (.int .u8)) 1 ((Addr.mk 0 0 none).add ((Int.toNat v2_) * 1)) fun (x3_ : Int) =>
 M.ite (leB 240 x3_)
 (M.guard (decide (0 ≤ 31))
 (M.guard (decide (0 ≤ 31))
 (let v7_ : Int := (((IntKind.i32.wrap ((wrapW .i32 x3_) * 2 ^ (min (Int.toNat 31) IntKind.i32.bits))) : Int)).fdiv (2 ^ (min (Int.toNat 31) IntKind.i32.bits))
 M.guard (inB 0 x.1.size)
 (M.pure (.tuple ⟨[(.int .i32 (orW .i32 (bitsV .andNot .i32 (wrapW .i32 (byteAt x.1 0)) v7_) (andW .i32 65533 v7_))), (.int .i64 1)]⟩)))))
 (f58c4 X L x v0_ v2_ x3_)
def f58 (X : XT) (L : LoopI) (x : (ByteArray) × Unit) : M Value :=
 let v0_ : Int := ((x.1.size : Nat) : Int)
 M.ite (ltB v0_ 1)
 (M.pure (.tuple ⟨[(.int .i32 65533), (.int .i64 0)]⟩))
 (M.guard (inB 0 x.1.size)
 (let v2_ : Int := byteAt x.1 0
 M.guard (inB v2_ 256)
 (f58c5 X L x v0_ v2_)))

theorem e58 (X : XT) (L : LoopI) (x : (ByteArray) × Unit) : evBody CC { call := X, loop := L } 58 (shsInj [(.cell .string)] x) = f58 X L x := by kernel_rfl

/-- hayrick/hayricklaw08.Made -/
def f60c0 (X : XT) (L : LoopI) (x : (Int) × (Int) × (Int) × (Int) × Unit) (b1_ : Nat) (r9_ : (PA) × (Int) × Unit) (r13_ : (PA) × (Int) × Unit) : M (Value) :=
 M.load (.agg [(.int .i64), (.int .i64), (.int .i64)]) 3 (Addr.mk b1_ 0 none) fun (x14_ : Int × Int × Int × Unit) =>
 M.callS (.tuple [(.cell .ptr), (.cell (.int .i64))]) (X (.call 86 [(.pointer r9_.1), (.agg ⟨[(.int .i64 x14_.1), (.int .i64 x14_.2.1), (.int .i64 x14_.2.2.1)]⟩), (.int .i64 x.2.2.2.1)])) fun (r15_ : (PA) × (Int) × Unit) =>
 M.join (fun (j16_ : (Bool) × Unit) =>
 M.ite j16_.1
 (M.pure (.tuple ⟨[(.pointer none), (.pointer none)]⟩))
 (M.pure (.tuple ⟨[(.pointer r13_.1), (.pointer r15_.1)]⟩))) fun go17_ =>
 M.ite (!(eqB r13_.2.1 0))
 (go17_ (true, ()))
 (go17_ ((!(eqB r15_.2.1 0)), ()))
def f60c1 (X : XT) (L : LoopI) (x : (Int) × (Int) × (Int) × (Int) × Unit) (b1_ : Nat) (r5_ : (PA) × (Int) × Unit) (r9_ : (PA) × (Int) × Unit) : M (Value) :=
 M.join (fun (j10_ : (Bool) × Unit) =>
 M.ite j10_.1
 (M.pure (.tuple ⟨[(.pointer none), (.pointer none)]⟩))
 (M.load (.agg [(.int .i64), (.int .i64), (.int .i64)]) 3 (Addr.mk b1_ 0 none) fun (x12_ : Int × Int × Int × Unit) =>
 M.callS (.tuple [(.cell .ptr), (.cell (.int .i64))]) (X (.call 85 [(.pointer r5_.1), (.agg ⟨[(.int .i64 x12_.1), (.int .i64 x12_.2.1), (.int .i64 x12_.2.2.1)]⟩), (.int .i64 x.2.2.2.1)])) fun (r13_ : (PA) × (Int) × Unit) =>
 f60c0 X L x b1_ r9_ r13_)) fun go11_ =>
 M.ite (!(eqB r5_.2.1 0))
 (go11_ (true, ()))
 (go11_ ((!(eqB r9_.2.1 0)), ()))
def f60c2 (X : XT) (L : LoopI) (x : (Int) × (Int) × (Int) × (Int) × Unit) (b1_ : Nat) : M (Value) :=
 M.load (.cell (.int .i64)) 1 ((Addr.mk b1_ 0 none).add 1) fun (x2_ : Int) =>
 M.callS (.tuple [(.cell .ptr), (.cell (.int .i64))]) (X (.call 83 [(.int .i64 x2_), (.int .i64 (addW .i64 x.2.2.2.1 (mulW .i64 8 x.2.2.1)))])) fun (r5_ : (PA) × (Int) × Unit) =>
 M.load (.cell (.int .i64)) 1 ((Addr.mk b1_ 0 none).add 1) fun (x6_ : Int) =>
 M.callS (.tuple [(.cell .ptr), (.cell (.int .i64))]) (X (.call 84 [(.int .i64 x6_), (.int .i64 (addW .i64 x.2.2.2.1 (mulW .i64 8 x.2.2.1)))])) fun (r9_ : (PA) × (Int) × Unit) =>
 f60c1 X L x b1_ r5_ r9_
def f60 (X : XT) (L : LoopI) (x : (Int) × (Int) × (Int) × (Int) × Unit) : M Value :=
 M.new (.cells (Row.ofList [(.int .i64 0), (.int .i64 0), (.int .i64 0)]) 160 false (0, 0) false) fun b1_ =>
 M.store (Addr.mk b1_ 0 none) [(.int .i64 x.1), (.int .i64 (addW .i64 x.1 x.2.1)), (.int .i64 x.2.2.1)]
 (f60c2 X L x b1_)

theorem e60 (X : XT) (L : LoopI) (x : (Int) × (Int) × (Int) × (Int) × Unit) : evBody CC { call := X, loop := L } 60 (shsInj [(.cell (.int .i64)), (.cell (.int .i64)), (.cell (.int .i64)), (.cell (.int .i64))] x) = f60 X L x := by kernel_rfl

/-- hayrick/logs.New -/
def f61c0 (X : XT) (L : LoopI) (x : (PA) × (Int) × (SL) × (SL) × Unit) : M (Value) :=
 M.callS (.one (.cell .slice)) (X (.call 90 [(.slice x.2.2.1.1 x.2.2.1.2.1 x.2.2.1.2.2)])) fun (r5_ : SL) =>
 M.callS (.one (.cell .slice)) (X (.call 91 [(.slice x.2.2.2.1.1 x.2.2.2.1.2.1 x.2.2.2.1.2.2)])) fun (r6_ : SL) =>
 M.new (.cells (Row.ofList [(.pointer x.1), (.int .u64 x.2.1), (.slice r5_.1 r5_.2.1 r5_.2.2), (.slice r6_.1 r6_.2.1 r6_.2.2), (.int .i64 (-1)), (.slice none 0 0), (.slice none 0 0), (.bool false)]) 179 false (0, 0) false) fun b7_ =>
 M.pure (.tuple ⟨[(.pointer (some (Addr.mk b7_ 0 none))), (.int .i64 0)]⟩)
def f61c1 (X : XT) (L : LoopI) (x : (PA) × (Int) × (SL) × (SL) × Unit) : M (Value) :=
 M.callS (.one (.agg [(.int .i64), (.int .i64), (.int .i64)])) (X (.call 88 [(.pointer x.1)])) fun (r2_ : Int × Int × Int × Unit) =>
 M.join (fun (j3_ : (Bool) × Unit) =>
 M.ite j3_.1
 (M.pure (.tuple ⟨[(.pointer none), (.int .i64 1)]⟩))
 (f61c0 X L x)) fun go4_ =>
 M.ite (eqB x.2.1 0)
 (go4_ (true, ()))
 (M.ite (!(eqB ((x.2.2.1.2.1 : Nat) : Int) r2_.2.2.1))
 (go4_ (true, ()))
 (M.callS (.one (.cell .bool)) (X (.call 89 [(.slice x.2.2.2.1.1 x.2.2.2.1.2.1 x.2.2.2.1.2.2), (.int .i64 r2_.2.2.1), (.int .i64 (-1))])) fun (r11_ : Bool) =>
 go4_ ((!r11_), ())))
def f61 (X : XT) (L : LoopI) (x : (PA) × (Int) × (SL) × (SL) × Unit) : M Value :=
 M.callS (.one (.cell .ptr)) (X (.call 87 [(.pointer x.1)])) fun (r0_ : PA) =>
 M.eqPtr r0_ none fun (q1_ : Bool) =>
 M.ite q1_
 (M.pure (.tuple ⟨[(.pointer none), (.int .i64 2)]⟩))
 (f61c1 X L x)

theorem e61 (X : XT) (L : LoopI) (x : (PA) × (Int) × (SL) × (SL) × Unit) : evBody CC { call := X, loop := L } 61 (shsInj [(.cell .ptr), (.cell (.int .u64)), (.cell .slice), (.cell .slice)] x) = f61 X L x := by kernel_rfl

/-- hayrick/hayricklaw17.Every -/
def f62c0 (X : XT) (L : LoopI) (x : (Int) × Unit) : M (Value) :=
 M.bind (L (σ := (SL) × (Int) × Unit) (ρ := ((SL) × Unit) ⊕ (Unit)) (fun s0_ =>
 M.ite (ltB s0_.2.1 x.1)
 (M.new (.cells (Row.ofList [(.int .i64 s0_.2.1)]) 3 false (0, 0) false) fun b2_ =>
 M.append 3 1 8 s0_.1.1 s0_.1.2.1 s0_.1.2.2 (.slice (some (Addr.mk b2_ 0 none)) 1 1) fun a3_ n4_ c5_ =>
 M.pure (.inl ((a3_, n4_, c5_), (addW .i64 s0_.2.1 1), ())))
 (M.pure (.inr (.inl (s0_.1, ()))))) ((none, 0, 0), 0, ())) <| M.sum (fun (j7_ : (SL) × Unit) =>
 M.pure (.slice j7_.1.1 j7_.1.2.1 j7_.1.2.2)) (fun _ => M.stuck)
def f62 (X : XT) (L : LoopI) (x : (Int) × Unit) : M Value :=
 f62c0 X L x

theorem e62 (X : XT) (L : LoopI) (x : (Int) × Unit) : evBody CC { call := X, loop := L } 62 (shsInj [(.cell (.int .i64))] x) = f62 X L x := by kernel_rfl

/-- hayrick/hayrickref17.New -/
def f63c0 (X : XT) (L : LoopI) (x : (PA) × (Int) × (SL) × (SL) × Unit) (r2_ : (SL) × (Bool) × Unit) : M (Value) :=
 M.join (fun (j3_ : (Bool) × Unit) =>
 M.ite j3_.1
 (M.pure (.tuple ⟨[(.pointer none), (.int .i64 1)]⟩))
 (M.append 126 1 8 none 0 0 (.slice x.2.2.1.1 x.2.2.1.2.1 x.2.2.1.2.2) fun a5_ n6_ c7_ =>
 M.new (.cells (Row.ofList [(.pointer x.1), (.int .u64 x.2.1), (.slice a5_ n6_ c7_), (.slice r2_.1.1 r2_.1.2.1 r2_.1.2.2), (.int .i64 (-1)), (.slice none 0 0), (.slice none 0 0), (.bool false)]) 186 false (0, 0) false) fun b8_ =>
 M.pure (.tuple ⟨[(.pointer (some (Addr.mk b8_ 0 none))), (.int .i64 0)]⟩))) fun go4_ =>
 M.ite (eqB x.2.1 0)
 (go4_ (true, ()))
 (M.deref x.1 fun a11_ =>
 M.load (.cell (.int .i64)) 1 ((a11_.add 1).add 2) fun (x12_ : Int) =>
 M.ite (!(eqB ((x.2.2.1.2.1 : Nat) : Int) x12_))
 (go4_ (true, ()))
 (go4_ ((!r2_.2.1), ())))
def f63 (X : XT) (L : LoopI) (x : (PA) × (Int) × (SL) × (SL) × Unit) : M Value :=
 M.deref x.1 fun a0_ =>
 M.load (.cell (.int .i64)) 1 ((a0_.add 1).add 2) fun (x1_ : Int) =>
 M.callS (.tuple [(.cell .slice), (.cell .bool)]) (X (.call 92 [(.slice x.2.2.2.1.1 x.2.2.2.1.2.1 x.2.2.2.1.2.2), (.int .i64 x1_), (.int .i64 (-1))])) fun (r2_ : (SL) × (Bool) × Unit) =>
 f63c0 X L x r2_

theorem e63 (X : XT) (L : LoopI) (x : (PA) × (Int) × (SL) × (SL) × Unit) : evBody CC { call := X, loop := L } 63 (shsInj [(.cell .ptr), (.cell (.int .u64)), (.cell .slice), (.cell .slice)] x) = f63 X L x := by kernel_rfl

/-- (*hayrick/logs.Log).Stripes -/
def f64 (X : XT) (L : LoopI) (x : (PA) × Unit) : M Value :=
 M.eqPtr x.1 none fun (q0_ : Bool) =>
 M.ite q0_
 (M.pure (.pointer none))
 (M.deref x.1 fun a1_ =>
 M.load (.cell .ptr) 1 (a1_.add 0) fun (x2_ : PA) =>
 M.pure (.pointer x2_))

theorem e64 (X : XT) (L : LoopI) (x : (PA) × Unit) : evBody CC { call := X, loop := L } 64 (shsInj [(.cell .ptr)] x) = f64 X L x := by kernel_rfl

/-- slices.ContainsFunc[[]uint32,uint32] -/
def f65 (X : XT) (L : LoopI) (x : (SL) × (Value) × Unit) : M Value :=
 M.callS (.one (.cell (.int .i64))) (X (.call 93 [(.slice x.1.1 x.1.2.1 x.1.2.2), x.2.1])) fun (r0_ : Int) =>
 M.pure (.bool (leB 0 r0_))

theorem e65 (X : XT) (L : LoopI) (x : (SL) × (Value) × Unit) : evBody CC { call := X, loop := L } 65 (shsInj [(.cell .slice), (.cell .val)] x) = f65 X L x := by kernel_rfl

/-- hayrick/inode.May$1 -/
def f66 (X : XT) (L : LoopI) (x : (Int) × Unit) : M Value :=
 M.pure (.bool (!(eqB x.1 0)))

theorem e66 (X : XT) (L : LoopI) (x : (Int) × Unit) : evBody CC { call := X, loop := L } 66 (shsInj [(.cell (.int .u32))] x) = f66 X L x := by kernel_rfl

/-- (*hayrick/store.Store).put -/
def f67c0 (X : XT) (L : LoopI) (r6_ : (SL) × (Int) × Unit) (b13_ : Nat) (a14_ : Addr) : M (Value) :=
 M.load (.cell .ptr) 1 (a14_.add 0) fun (x15_ : PA) =>
 M.load (.agg [(.int .i64), .bool, (.int .i64), (.int .i64)]) 4 (Addr.mk b13_ 0 none) fun (x16_ : Int × Bool × Int × Int × Unit) =>
 M.callS (.tuple [(.cell (.int .u32)), (.cell (.int .i64))]) (X (.call 95 [(.pointer x15_), (.agg ⟨[(.int .i64 x16_.1), (.bool x16_.2.1), (.int .i64 x16_.2.2.1), (.int .i64 x16_.2.2.2.1)]⟩), (.slice r6_.1.1 r6_.1.2.1 r6_.1.2.2)])) fun (r17_ : (Int) × (Int) × Unit) =>
 M.pure (.tuple ⟨[(.int .u32 r17_.1), (.int .i64 r17_.2.1)]⟩)
def f67c1 (X : XT) (L : LoopI) (x : (PA) × (Value) × (Bool) × Unit) (r6_ : (SL) × (Int) × Unit) : M (Value) :=
 match x.2.1 with
 | .iface t8_ y9_ => M.need (methodA CC t8_ "hayrick/store.record") fun f10_ => callF CC ⟨X, L⟩ f10_ (y9_ :: []) fun w11_ => M.need (RSh.prj (.one (.agg [(.int .i64), .bool, (.int .i64), (.int .i64)])) w11_) fun (r12_ : Int × Bool × Int × Int × Unit) =>
 (M.new (.cells (Row.ofList [(.int .i64 0), (.bool false), (.int .i64 0), (.int .i64 0)]) 143 false (0, 0) false) fun b13_ =>
 M.store (Addr.mk b13_ 0 none) [(.int .i64 r12_.1), (.bool r12_.2.1), (.int .i64 r12_.2.2.1), (.int .i64 r12_.2.2.2.1)]
 (M.store ((Addr.mk b13_ 0 none).add 1) [(.bool x.2.2.1)]
 (M.deref x.1 fun a14_ =>
 f67c0 X L r6_ b13_ a14_)))
 | _ => M.stuck
def f67c2 (X : XT) (L : LoopI) (x : (PA) × (Value) × (Bool) × Unit) : M (Value) :=
 M.callS (.one (.cell (.int .i64))) (X (.call 94 [(.pointer x.1), (.int .i64 1)])) fun (r0_ : Int) =>
 M.ite (!(eqB r0_ 0))
 (M.pure (.tuple ⟨[(.int .u32 0), (.int .i64 r0_)]⟩))
 (match x.2.1 with
 | .iface t2_ y3_ => M.need (methodA CC t2_ "hayrick/store.block") fun f4_ => callF CC ⟨X, L⟩ f4_ (y3_ :: []) fun w5_ => M.need (RSh.prj (.tuple [(.cell .slice), (.cell (.int .i64))]) w5_) fun (r6_ : (SL) × (Int) × Unit) =>
 (M.ite (!(eqB r6_.2.1 0))
 (M.pure (.tuple ⟨[(.int .u32 0), (.int .i64 r6_.2.1)]⟩))
 (f67c1 X L x r6_))
 | _ => M.stuck)
def f67 (X : XT) (L : LoopI) (x : (PA) × (Value) × (Bool) × Unit) : M Value :=
 f67c2 X L x

theorem e67 (X : XT) (L : LoopI) (x : (PA) × (Value) × (Bool) × Unit) : evBody CC { call := X, loop := L } 67 (shsInj [(.cell .ptr), (.cell .val), (.cell .bool)] x) = f67 X L x := by kernel_rfl

/-- hayrick/points.Spread -/
def f69c0 (X : XT) (L : LoopI) (b1_ : Nat) : M (Value) :=
 M.load (.agg [(.int .i64), (.int .i64), (.int .i64), (.int .i64), (.int .u32), (.int .u32), (.int .u32), (.int .u32), (.int .u32), (.int .u32), (.int .u32)]) 11 (Addr.mk b1_ 0 none) fun (x4_ : Int × Int × Int × Int × Int × Int × Int × Int × Int × Int × Int × Unit) =>
 M.pure (.tuple ⟨[(.agg ⟨[(.int .i64 x4_.1), (.int .i64 x4_.2.1), (.int .i64 x4_.2.2.1), (.int .i64 x4_.2.2.2.1), (.int .u32 x4_.2.2.2.2.1), (.int .u32 x4_.2.2.2.2.2.1), (.int .u32 x4_.2.2.2.2.2.2.1), (.int .u32 x4_.2.2.2.2.2.2.2.1), (.int .u32 x4_.2.2.2.2.2.2.2.2.1), (.int .u32 x4_.2.2.2.2.2.2.2.2.2.1), (.int .u32 x4_.2.2.2.2.2.2.2.2.2.2.1)]⟩), (.slice none 0 0), (.int .i64 1)]⟩)
def f69c1 (X : XT) (L : LoopI) (b1_ : Nat) (r8_ : SL) : M (Value) :=
 M.load (.agg [(.int .i64), (.int .i64), (.int .i64), (.int .i64), (.int .u32), (.int .u32), (.int .u32), (.int .u32), (.int .u32), (.int .u32), (.int .u32)]) 11 (Addr.mk b1_ 0 none) fun (x10_ : Int × Int × Int × Int × Int × Int × Int × Int × Int × Int × Int × Unit) =>
 M.pure (.tuple ⟨[(.agg ⟨[(.int .i64 x10_.1), (.int .i64 x10_.2.1), (.int .i64 x10_.2.2.1), (.int .i64 x10_.2.2.2.1), (.int .u32 x10_.2.2.2.2.1), (.int .u32 x10_.2.2.2.2.2.1), (.int .u32 x10_.2.2.2.2.2.2.1), (.int .u32 x10_.2.2.2.2.2.2.2.1), (.int .u32 x10_.2.2.2.2.2.2.2.2.1), (.int .u32 x10_.2.2.2.2.2.2.2.2.2.1), (.int .u32 x10_.2.2.2.2.2.2.2.2.2.2.1)]⟩), (.slice r8_.1 r8_.2.1 r8_.2.2), (.int .i64 0)]⟩)
def f69c2 (X : XT) (L : LoopI) (b0_ : Nat) (b1_ : Nat) (x6_ : Int × Int × Int × Int × Int × Int × Int × Int × Int × Int × Int × Unit) (r8_ : SL) : M (Value) :=
 M.load (.agg [(.int .i64), (.int .i64), (.int .i64), (.int .i64), (.int .u32), (.int .u32), (.int .u32), (.int .u32), (.int .u32), (.int .u32), (.int .u32)]) 11 (Addr.mk b0_ 0 none) fun (x9_ : Int × Int × Int × Int × Int × Int × Int × Int × Int × Int × Int × Unit) => cond (veqv (.agg ⟨[(.int .i64 x9_.1), (.int .i64 x9_.2.1), (.int .i64 x9_.2.2.1), (.int .i64 x9_.2.2.2.1), (.int .u32 x9_.2.2.2.2.1), (.int .u32 x9_.2.2.2.2.2.1), (.int .u32 x9_.2.2.2.2.2.2.1), (.int .u32 x9_.2.2.2.2.2.2.2.1), (.int .u32 x9_.2.2.2.2.2.2.2.2.1), (.int .u32 x9_.2.2.2.2.2.2.2.2.2.1), (.int .u32 x9_.2.2.2.2.2.2.2.2.2.2.1)]⟩) (.agg ⟨[(.int .i64 x6_.1), (.int .i64 x6_.2.1), (.int .i64 x6_.2.2.1), (.int .i64 x6_.2.2.2.1), (.int .u32 x6_.2.2.2.2.1), (.int .u32 x6_.2.2.2.2.2.1), (.int .u32 x6_.2.2.2.2.2.2.1), (.int .u32 x6_.2.2.2.2.2.2.2.1), (.int .u32 x6_.2.2.2.2.2.2.2.2.1), (.int .u32 x6_.2.2.2.2.2.2.2.2.2.1), (.int .u32 x6_.2.2.2.2.2.2.2.2.2.2.1)]⟩)) (M.store (Addr.mk b1_ 0 none) [(.int .i64 x6_.1), (.int .i64 x6_.2.1), (.int .i64 x6_.2.2.1), (.int .i64 x6_.2.2.2.1), (.int .u32 x6_.2.2.2.2.1), (.int .u32 x6_.2.2.2.2.2.1), (.int .u32 x6_.2.2.2.2.2.2.1), (.int .u32 x6_.2.2.2.2.2.2.2.1), (.int .u32 x6_.2.2.2.2.2.2.2.2.1), (.int .u32 x6_.2.2.2.2.2.2.2.2.2.1), (.int .u32 x6_.2.2.2.2.2.2.2.2.2.2.1)]
 (f69c1 X L b1_ r8_)) M.stuck
def f69c3 (X : XT) (L : LoopI) (x : (Int × Int × Int × Int × Int × Int × Int × Int × Int × Int × Int × Unit) × (SL) × Unit) (b0_ : Nat) (b1_ : Nat) (m5_ : Nat) : M (Value) :=
 M.load (.agg [(.int .i64), (.int .i64), (.int .i64), (.int .i64), (.int .u32), (.int .u32), (.int .u32), (.int .u32), (.int .u32), (.int .u32), (.int .u32)]) 11 (Addr.mk b0_ 0 none) fun (x6_ : Int × Int × Int × Int × Int × Int × Int × Int × Int × Int × Int × Unit) =>
 M.guard (upB ((m5_ : Nat) : Int) x.2.1.2.1)
 (let v7_ : Nat := (Int.toNat ((m5_ : Nat) : Int))
 M.callS (.one (.cell .slice)) (X (.call 96 [(.slice (x.2.1.1.map (·.add (v7_ * 1))) (x.2.1.2.1 - v7_) (x.2.1.2.2 - v7_))])) fun (r8_ : SL) =>
 f69c2 X L b0_ b1_ x6_ r8_)
def f69c4 (X : XT) (L : LoopI) (x : (Int × Int × Int × Int × Int × Int × Int × Int × Int × Int × Int × Unit) × (SL) × Unit) (b0_ : Nat) (go3_ : ((Bool) × Unit) → M (Value)) (x11_ : Int × Int × Int × Int × Int × Int × Int × Int × Int × Int × Int × Unit) : M (Value) :=
 M.callS (.one (.cell .bool)) (X (.call 45 [(.agg ⟨[(.int .i64 x11_.1), (.int .i64 x11_.2.1), (.int .i64 x11_.2.2.1), (.int .i64 x11_.2.2.2.1), (.int .u32 x11_.2.2.2.2.1), (.int .u32 x11_.2.2.2.2.2.1), (.int .u32 x11_.2.2.2.2.2.2.1), (.int .u32 x11_.2.2.2.2.2.2.2.1), (.int .u32 x11_.2.2.2.2.2.2.2.2.1), (.int .u32 x11_.2.2.2.2.2.2.2.2.2.1), (.int .u32 x11_.2.2.2.2.2.2.2.2.2.2.1)]⟩)])) fun (r12_ : Bool) =>
 M.ite (!r12_)
 (go3_ (true, ()))
 (M.load (.cell (.int .i64)) 1 ((Addr.mk b0_ 0 none).add 2) fun (x15_ : Int) =>
 M.callS (.one (.cell (.int .i64))) (X (.call 46 [(.int .i64 x15_)])) fun (r16_ : Int) =>
 go3_ ((!(eqB ((x.2.1.2.1 : Nat) : Int) r16_)), ()))
def f69c5 (X : XT) (L : LoopI) (x : (Int × Int × Int × Int × Int × Int × Int × Int × Int × Int × Int × Unit) × (SL) × Unit) (b0_ : Nat) (b1_ : Nat) : M (Value) :=
 M.join (fun (j2_ : (Bool) × Unit) =>
 M.ite j2_.1
 (M.store (Addr.mk b1_ 0 none) [(.int .i64 0), (.int .i64 0), (.int .i64 0), (.int .i64 0), (.int .u32 0), (.int .u32 0), (.int .u32 0), (.int .u32 0), (.int .u32 0), (.int .u32 0), (.int .u32 0)]
 (f69c0 X L b1_))
 (M.copy 1 (some (((Addr.mk b0_ 0 none).add 4).add (0 * 1))) (6 - 0) (.slice x.2.1.1 x.2.1.2.1 x.2.1.2.2) fun m5_ =>
 f69c3 X L x b0_ b1_ m5_)) fun go3_ =>
 M.load (.agg [(.int .i64), (.int .i64), (.int .i64), (.int .i64), (.int .u32), (.int .u32), (.int .u32), (.int .u32), (.int .u32), (.int .u32), (.int .u32)]) 11 (Addr.mk b0_ 0 none) fun (x11_ : Int × Int × Int × Int × Int × Int × Int × Int × Int × Int × Int × Unit) =>
 f69c4 X L x b0_ go3_ x11_
def f69c6 (X : XT) (L : LoopI) (x : (Int × Int × Int × Int × Int × Int × Int × Int × Int × Int × Int × Unit) × (SL) × Unit) : M (Value) :=
 M.new (.cells (Row.ofList [(.int .i64 x.1.1), (.int .i64 x.1.2.1), (.int .i64 x.1.2.2.1), (.int .i64 x.1.2.2.2.1), (.int .u32 x.1.2.2.2.2.1), (.int .u32 x.1.2.2.2.2.2.1), (.int .u32 x.1.2.2.2.2.2.2.1), (.int .u32 x.1.2.2.2.2.2.2.2.1), (.int .u32 x.1.2.2.2.2.2.2.2.2.1), (.int .u32 x.1.2.2.2.2.2.2.2.2.2.1), (.int .u32 x.1.2.2.2.2.2.2.2.2.2.2.1)]) 76 false (0, 0) false) fun b0_ =>
 M.new (.cells (Row.ofList [(.int .i64 0), (.int .i64 0), (.int .i64 0), (.int .i64 0), (.int .u32 0), (.int .u32 0), (.int .u32 0), (.int .u32 0), (.int .u32 0), (.int .u32 0), (.int .u32 0)]) 76 false (0, 0) false) fun b1_ =>
 M.store ((Addr.mk b0_ 0 none).add 4) [(.int .u32 0), (.int .u32 0), (.int .u32 0), (.int .u32 0), (.int .u32 0), (.int .u32 0)]
 (M.store ((Addr.mk b0_ 0 none).add 10) [(.int .u32 0)]
 (f69c5 X L x b0_ b1_))
def f69 (X : XT) (L : LoopI) (x : (Int × Int × Int × Int × Int × Int × Int × Int × Int × Int × Int × Unit) × (SL) × Unit) : M Value :=
 f69c6 X L x

theorem e69 (X : XT) (L : LoopI) (x : (Int × Int × Int × Int × Int × Int × Int × Int × Int × Int × Int × Unit) × (SL) × Unit) : evBody CC { call := X, loop := L } 69 (shsInj [(.agg [(.int .i64), (.int .i64), (.int .i64), (.int .i64), (.int .u32), (.int .u32), (.int .u32), (.int .u32), (.int .u32), (.int .u32), (.int .u32)]), (.cell .slice)] x) = f69 X L x := by kernel_rfl

/-- (*hayrick/store.Store).Save -/
def f70c0 (X : XT) (L : LoopI) (x : (PA) × (Int × Int × Int × Int × Int × Int × Int × Int × Int × Int × Int × Unit) × (Bool) × Unit) (b0_ : Nat) (x1_ : Int × Int × Int × Int × Int × Int × Int × Int × Int × Int × Int × Unit) : M (Value) :=
 M.callS (.tuple [(.cell (.int .u32)), (.cell (.int .i64))]) (X (.call 67 [(.pointer x.1), (.iface 198 (.agg ⟨[(.int .i64 x1_.1), (.int .i64 x1_.2.1), (.int .i64 x1_.2.2.1), (.int .i64 x1_.2.2.2.1), (.int .u32 x1_.2.2.2.2.1), (.int .u32 x1_.2.2.2.2.2.1), (.int .u32 x1_.2.2.2.2.2.2.1), (.int .u32 x1_.2.2.2.2.2.2.2.1), (.int .u32 x1_.2.2.2.2.2.2.2.2.1), (.int .u32 x1_.2.2.2.2.2.2.2.2.2.1), (.int .u32 x1_.2.2.2.2.2.2.2.2.2.2.1)]⟩)), (.bool x.2.2.1)])) fun (r2_ : (Int) × (Int) × Unit) =>
 M.join (fun (j3_ : Unit) =>
 M.pure (.int .i64 r2_.2.1)) fun go4_ =>
 M.ite (eqB r2_.2.1 0)
 (M.load (.cell (.int .i64)) 1 ((Addr.mk b0_ 0 none).add 0) fun (x6_ : Int) =>
 let v7_ : Int := subW .i64 x6_ 1
 M.deref x.1 fun a8_ =>
 M.guard (inB v7_ 64)
 (M.store ((a8_.add 1).add ((Int.toNat v7_) * 1)) [(.int .u32 r2_.1)]
 (go4_ (()))))
 (go4_ (()))
def f70c1 (X : XT) (L : LoopI) (x : (PA) × (Int × Int × Int × Int × Int × Int × Int × Int × Int × Int × Int × Unit) × (Bool) × Unit) : M (Value) :=
 M.new (.cells (Row.ofList [(.int .i64 x.2.1.1), (.int .i64 x.2.1.2.1), (.int .i64 x.2.1.2.2.1), (.int .i64 x.2.1.2.2.2.1), (.int .u32 x.2.1.2.2.2.2.1), (.int .u32 x.2.1.2.2.2.2.2.1), (.int .u32 x.2.1.2.2.2.2.2.2.1), (.int .u32 x.2.1.2.2.2.2.2.2.2.1), (.int .u32 x.2.1.2.2.2.2.2.2.2.2.1), (.int .u32 x.2.1.2.2.2.2.2.2.2.2.2.1), (.int .u32 x.2.1.2.2.2.2.2.2.2.2.2.2.1)]) 76 false (0, 0) false) fun b0_ =>
 M.load (.agg [(.int .i64), (.int .i64), (.int .i64), (.int .i64), (.int .u32), (.int .u32), (.int .u32), (.int .u32), (.int .u32), (.int .u32), (.int .u32)]) 11 (Addr.mk b0_ 0 none) fun (x1_ : Int × Int × Int × Int × Int × Int × Int × Int × Int × Int × Int × Unit) =>
 f70c0 X L x b0_ x1_
def f70 (X : XT) (L : LoopI) (x : (PA) × (Int × Int × Int × Int × Int × Int × Int × Int × Int × Int × Int × Unit) × (Bool) × Unit) : M Value :=
 f70c1 X L x

theorem e70 (X : XT) (L : LoopI) (x : (PA) × (Int × Int × Int × Int × Int × Int × Int × Int × Int × Int × Int × Unit) × (Bool) × Unit) : evBody CC { call := X, loop := L } 70 (shsInj [(.cell .ptr), (.agg [(.int .i64), (.int .i64), (.int .i64), (.int .i64), (.int .u32), (.int .u32), (.int .u32), (.int .u32), (.int .u32), (.int .u32), (.int .u32)]), (.cell .bool)] x) = f70 X L x := by kernel_rfl

/-- hayrick/hayrickref11.Blocks -/
def f71 (X : XT) (L : LoopI) (x : (Int) × Unit) : M Value :=
 M.ite (ltB x.1 1)
 (M.pure (.int .i64 0))
 (M.guard (!(decide (112 = 0)))
 (let v1_ : Int := IntKind.i64.wrap ((x.1 : Int).tdiv 112)
 M.join (fun (j2_ : (Int) × Unit) =>
 M.pure (.int .i64 j2_.1)) fun go3_ =>
 M.guard (!(decide (112 = 0)))
 (M.ite (ltB 0 ((x.1 : Int).tmod 112))
 (go3_ ((addW .i64 v1_ 1), ()))
 (go3_ (v1_, ())))))

theorem e71 (X : XT) (L : LoopI) (x : (Int) × Unit) : evBody CC { call := X, loop := L } 71 (shsInj [(.cell (.int .i64))] x) = f71 X L x := by kernel_rfl

/-- (*hayrick/hayrickref17.Log).Append -/
def f72c0 (X : XT) (L : LoopI) (x : (PA) × (Int × Bool × Int × Int × Unit) × (SL) × Unit) (go35_ : (Unit) → M (Value)) (a36_ : Addr) (x37_ : SL) (v38_ : Int) (a41_ : Addr) : M (Value) :=
 M.load (.cell (.int .i64)) 1 ((a41_.add 1).add 0) fun (x42_ : Int) =>
 M.callS (.one (.cell (.int .i64))) (X (.call 100 [(.int .i64 x42_)])) fun (r43_ : Int) =>
 M.load (.cell .slice) 1 (a36_.add 5) fun (x44_ : SL) => cond (veqv (.slice x44_.1 x44_.2.1 x44_.2.2) (.slice x37_.1 x37_.2.1 x37_.2.2)) (M.ite (eqB v38_ r43_)
 (M.callS (.one (.cell (.int .i64))) (X (.call 101 [(.pointer x.1)])) fun (r46_ : Int) =>
 M.ite (!(eqB r46_ 0))
 (M.pure (.tuple ⟨[(.int .u32 0), (.int .i64 r46_)]⟩))
 (go35_ (())))
 (go35_ (()))) M.stuck
def f72c1 (X : XT) (L : LoopI) (x : (PA) × (Int × Bool × Int × Int × Unit) × (SL) × Unit) (r16_ : (Int) × (Int) × Unit) (x26_ : SL) (b29_ : Nat) : M (Value) :=
 M.append 61 1 24 x26_.1 x26_.2.1 x26_.2.2 (.slice (some (Addr.mk b29_ 0 none)) 1 1) fun a30_ n31_ c32_ =>
 M.deref x.1 fun a33_ =>
 M.store (a33_.add 6) [(.slice a30_ n31_ c32_)]
 (M.join (fun (j34_ : Unit) =>
 M.pure (.tuple ⟨[(.int .u32 r16_.1), (.int .i64 0)]⟩)) fun go35_ =>
 M.deref x.1 fun a36_ =>
 M.load (.cell .slice) 1 (a36_.add 5) fun (x37_ : SL) =>
 M.deref x.1 fun a39_ =>
 M.load (.cell .ptr) 1 (a39_.add 0) fun (x40_ : PA) =>
 M.deref x40_ fun a41_ =>
 f72c0 X L x go35_ a36_ x37_ ((x37_.2.1 : Nat) : Int) a41_)
def f72c2 (X : XT) (L : LoopI) (x : (PA) × (Int × Bool × Int × Int × Unit) × (SL) × Unit) (r16_ : (Int) × (Int) × Unit) (a21_ : PA) (n22_ : Nat) (c23_ : Nat) (a24_ : Addr) : M (Value) :=
 M.store (a24_.add 5) [(.slice a21_ n22_ c23_)]
 (M.deref x.1 fun a25_ =>
 M.load (.cell .slice) 1 (a25_.add 6) fun (x26_ : SL) =>
 M.callS (.one (.cell .slice)) (X (.call 99 [(.slice x.2.2.1.1 x.2.2.1.2.1 x.2.2.1.2.2)])) fun (r27_ : SL) =>
 M.load (.cell .slice) 1 (a25_.add 6) fun (x28_ : SL) => cond (veqv (.slice x28_.1 x28_.2.1 x28_.2.2) (.slice x26_.1 x26_.2.1 x26_.2.2)) (M.new (.cells (Row.ofList [(.slice r27_.1 r27_.2.1 r27_.2.2)]) 61 false (0, 0) false) fun b29_ =>
 f72c1 X L x r16_ x26_ b29_) M.stuck)
def f72c3 (X : XT) (L : LoopI) (x : (PA) × (Int × Bool × Int × Int × Unit) × (SL) × Unit) (b0_ : Nat) (r16_ : (Int) × (Int) × Unit) (a17_ : Addr) : M (Value) :=
 M.load (.cell .slice) 1 (a17_.add 5) fun (x18_ : SL) =>
 M.load (.agg [(.int .i64), .bool, (.int .i64), (.int .i64)]) 4 (Addr.mk b0_ 0 none) fun (x19_ : Int × Bool × Int × Int × Unit) =>
 M.new (.cells (Row.ofList [(.int .i64 x19_.1), (.bool x19_.2.1), (.int .i64 x19_.2.2.1), (.int .i64 x19_.2.2.2.1)]) 143 false (0, 0) false) fun b20_ =>
 M.append 143 4 32 x18_.1 x18_.2.1 x18_.2.2 (.slice (some (Addr.mk b20_ 0 none)) 1 1) fun a21_ n22_ c23_ =>
 M.deref x.1 fun a24_ =>
 f72c2 X L x r16_ a21_ n22_ c23_ a24_
def f72c4 (X : XT) (L : LoopI) (x : (PA) × (Int × Bool × Int × Int × Unit) × (SL) × Unit) (b0_ : Nat) (a7_ : Addr) : M (Value) :=
 M.load (.cell .ptr) 1 (a7_.add 0) fun (x8_ : PA) =>
 M.deref x8_ fun a9_ =>
 M.load (.cell (.int .i64)) 1 ((a9_.add 1).add 0) fun (x10_ : Int) =>
 M.deref x.1 fun a11_ =>
 M.load (.cell (.int .i64)) 1 (a11_.add 4) fun (x12_ : Int) =>
 M.deref x.1 fun a13_ =>
 M.load (.cell .slice) 1 (a13_.add 5) fun (x14_ : SL) =>
 M.callS (.tuple [(.cell (.int .u32)), (.cell (.int .i64))]) (X (.call 98 [(.int .i64 x10_), (.int .i64 x12_), (.int .i64 ((x14_.2.1 : Nat) : Int))])) fun (r16_ : (Int) × (Int) × Unit) =>
 M.deref x.1 fun a17_ =>
 f72c3 X L x b0_ r16_ a17_
def f72c5 (X : XT) (L : LoopI) (x : (PA) × (Int × Bool × Int × Int × Unit) × (SL) × Unit) (s51_ : (Int) × Unit) : M (((Int) × Unit) ⊕ (((Int) × Unit) ⊕ (Unit))) :=
 M.join (fun (j52_ : (Bool) × Unit) =>
 M.ite j52_.1
 (M.pure (.inl ((addW .i64 s51_.1 1), ())))
 (M.pure (.inr (.inl (s51_.1, ()))))) fun go53_ =>
 M.deref x.1 fun a55_ =>
 M.load (.cell .slice) 1 (a55_.add 3) fun (x56_ : SL) =>
 M.ite (ltB s51_.1 ((x56_.2.1 : Nat) : Int))
 (M.deref x.1 fun a59_ =>
 M.load (.cell .slice) 1 (a59_.add 3) fun (x60_ : SL) =>
 M.guard (inB s51_.1 x60_.2.1)
 (M.deref x60_.1 fun a61_ =>
 M.load (.cell .bool) 1 (a61_.add ((Int.toNat s51_.1) * 1)) fun (x62_ : Bool) =>
 go53_ ((!x62_), ())))
 (go53_ (false, ()))
def f72c6 (X : XT) (L : LoopI) (x : (PA) × (Int × Bool × Int × Int × Unit) × (SL) × Unit) (go6_ : (Unit) → M (Value)) (j64_ : (Int) × Unit) (v68_ : Bool) : M (Value) :=
 M.ite v68_
 (M.pure (.tuple ⟨[(.int .u32 0), (.int .i64 7)]⟩))
 (M.deref x.1 fun a69_ =>
 M.store (a69_.add 4) [(.int .i64 j64_.1)]
 (M.deref x.1 fun a70_ =>
 M.load (.cell .slice) 1 (a70_.add 3) fun (x71_ : SL) =>
 M.guard (inB j64_.1 x71_.2.1)
 (M.deref x71_.1 fun a72_ =>
 M.store (a72_.add ((Int.toNat j64_.1) * 1)) [(.bool false)]
 (M.deref x.1 fun a73_ =>
 M.load (.cell .slice) 1 (a73_.add 2) fun (x74_ : SL) =>
 M.guard (inB j64_.1 x74_.2.1)
 (M.deref x74_.1 fun a75_ =>
 M.store (a75_.add ((Int.toNat j64_.1) * 1)) [(.int .u64 0)]
 (go6_ (())))))))
def f72c7 (X : XT) (L : LoopI) (x : (PA) × (Int × Bool × Int × Int × Unit) × (SL) × Unit) (b0_ : Nat) : M (Value) :=
 M.join (fun (j5_ : Unit) =>
 M.deref x.1 fun a7_ =>
 f72c4 X L x b0_ a7_) fun go6_ =>
 M.deref x.1 fun a48_ =>
 M.load (.cell (.int .i64)) 1 (a48_.add 4) fun (x49_ : Int) =>
 M.ite (ltB x49_ 0)
 (M.bind (L (σ := (Int) × Unit) (ρ := ((Int) × Unit) ⊕ (Unit)) (fun s51_ =>
 f72c5 X L x s51_) (0, ())) <| M.sum (fun (j64_ : (Int) × Unit) =>
 M.deref x.1 fun a65_ =>
 M.load (.cell .slice) 1 (a65_.add 3) fun (x66_ : SL) =>
 f72c6 X L x go6_ j64_ (eqB j64_.1 ((x66_.2.1 : Nat) : Int))) (fun _ => M.stuck))
 (go6_ (()))
def f72c8 (X : XT) (L : LoopI) (x : (PA) × (Int × Bool × Int × Int × Unit) × (SL) × Unit) (b0_ : Nat) : M (Value) :=
 M.join (fun (j3_ : (Bool) × Unit) =>
 M.ite j3_.1
 (M.pure (.tuple ⟨[(.int .u32 0), (.int .i64 1)]⟩))
 (f72c7 X L x b0_)) fun go4_ =>
 M.load (.agg [(.int .i64), .bool, (.int .i64), (.int .i64)]) 4 (Addr.mk b0_ 0 none) fun (x76_ : Int × Bool × Int × Int × Unit) =>
 M.callS (.one (.cell .bool)) (X (.call 97 [(.agg ⟨[(.int .i64 x76_.1), (.bool x76_.2.1), (.int .i64 x76_.2.2.1), (.int .i64 x76_.2.2.2.1)]⟩)])) fun (r77_ : Bool) =>
 M.ite (!r77_)
 (go4_ (true, ()))
 (go4_ ((!(eqB ((x.2.2.1.2.1 : Nat) : Int) 112)), ()))
def f72 (X : XT) (L : LoopI) (x : (PA) × (Int × Bool × Int × Int × Unit) × (SL) × Unit) : M Value :=
 M.new (.cells (Row.ofList [(.int .i64 x.2.1.1), (.bool x.2.1.2.1), (.int .i64 x.2.1.2.2.1), (.int .i64 x.2.1.2.2.2.1)]) 143 false (0, 0) false) fun b0_ =>
 M.deref x.1 fun a1_ =>
 M.load (.cell .bool) 1 (a1_.add 7) fun (x2_ : Bool) =>
 M.ite x2_
 (M.pure (.tuple ⟨[(.int .u32 0), (.int .i64 20)]⟩))
 (f72c8 X L x b0_)

theorem e72 (X : XT) (L : LoopI) (x : (PA) × (Int × Bool × Int × Int × Unit) × (SL) × Unit) : evBody CC { call := X, loop := L } 72 (shsInj [(.cell .ptr), (.agg [(.int .i64), .bool, (.int .i64), (.int .i64)]), (.cell .slice)] x) = f72 X L x := by kernel_rfl

/-- (*hayrick/hayrickref18.Store).Save -/
def f74c0 (X : XT) (L : LoopI) (x : (PA) × (Int × Int × Int × Int × Int × Int × Int × Int × Int × Int × Int × Unit) × (Bool) × Unit) (b0_ : Nat) (r2_ : (SL) × (Int) × Unit) (x5_ : PA) (x6_ : Int) : M (Value) :=
 M.callS (.tuple [(.cell (.int .u32)), (.cell (.int .i64))]) (X (.call 72 [(.pointer x5_), (.agg ⟨[(.int .i64 3), (.bool x.2.2.1), (.int .i64 x6_), (.int .i64 0)]⟩), (.slice r2_.1.1 r2_.1.2.1 r2_.1.2.2)])) fun (r7_ : (Int) × (Int) × Unit) =>
 M.ite (!(eqB r7_.2.1 0))
 (M.pure (.int .i64 r7_.2.1))
 (M.load (.cell (.int .i64)) 1 ((Addr.mk b0_ 0 none).add 0) fun (x9_ : Int) =>
 let v10_ : Int := subW .i64 x9_ 1
 M.deref x.1 fun a11_ =>
 M.guard (inB v10_ 64)
 (M.store ((a11_.add 1).add ((Int.toNat v10_) * 1)) [(.int .u32 r7_.1)]
 (M.pure (.int .i64 0))))
def f74c1 (X : XT) (L : LoopI) (x : (PA) × (Int × Int × Int × Int × Int × Int × Int × Int × Int × Int × Int × Unit) × (Bool) × Unit) (b0_ : Nat) (x1_ : Int × Int × Int × Int × Int × Int × Int × Int × Int × Int × Int × Unit) : M (Value) :=
 M.callS (.tuple [(.cell .slice), (.cell (.int .i64))]) (X (.call 103 [(.agg ⟨[(.int .i64 x1_.1), (.int .i64 x1_.2.1), (.int .i64 x1_.2.2.1), (.int .i64 x1_.2.2.2.1), (.int .u32 x1_.2.2.2.2.1), (.int .u32 x1_.2.2.2.2.2.1), (.int .u32 x1_.2.2.2.2.2.2.1), (.int .u32 x1_.2.2.2.2.2.2.2.1), (.int .u32 x1_.2.2.2.2.2.2.2.2.1), (.int .u32 x1_.2.2.2.2.2.2.2.2.2.1), (.int .u32 x1_.2.2.2.2.2.2.2.2.2.2.1)]⟩)])) fun (r2_ : (SL) × (Int) × Unit) =>
 M.ite (!(eqB r2_.2.1 0))
 (M.pure (.int .i64 r2_.2.1))
 (M.deref x.1 fun a4_ =>
 M.load (.cell .ptr) 1 (a4_.add 0) fun (x5_ : PA) =>
 M.load (.cell (.int .i64)) 1 ((Addr.mk b0_ 0 none).add 0) fun (x6_ : Int) =>
 f74c0 X L x b0_ r2_ x5_ x6_)
def f74c2 (X : XT) (L : LoopI) (x : (PA) × (Int × Int × Int × Int × Int × Int × Int × Int × Int × Int × Int × Unit) × (Bool) × Unit) : M (Value) :=
 M.new (.cells (Row.ofList [(.int .i64 x.2.1.1), (.int .i64 x.2.1.2.1), (.int .i64 x.2.1.2.2.1), (.int .i64 x.2.1.2.2.2.1), (.int .u32 x.2.1.2.2.2.2.1), (.int .u32 x.2.1.2.2.2.2.2.1), (.int .u32 x.2.1.2.2.2.2.2.2.1), (.int .u32 x.2.1.2.2.2.2.2.2.2.1), (.int .u32 x.2.1.2.2.2.2.2.2.2.2.1), (.int .u32 x.2.1.2.2.2.2.2.2.2.2.2.1), (.int .u32 x.2.1.2.2.2.2.2.2.2.2.2.2.1)]) 76 false (0, 0) false) fun b0_ =>
 M.load (.agg [(.int .i64), (.int .i64), (.int .i64), (.int .i64), (.int .u32), (.int .u32), (.int .u32), (.int .u32), (.int .u32), (.int .u32), (.int .u32)]) 11 (Addr.mk b0_ 0 none) fun (x1_ : Int × Int × Int × Int × Int × Int × Int × Int × Int × Int × Int × Unit) =>
 f74c1 X L x b0_ x1_
def f74 (X : XT) (L : LoopI) (x : (PA) × (Int × Int × Int × Int × Int × Int × Int × Int × Int × Int × Int × Unit) × (Bool) × Unit) : M Value :=
 f74c2 X L x

theorem e74 (X : XT) (L : LoopI) (x : (PA) × (Int × Int × Int × Int × Int × Int × Int × Int × Int × Int × Int × Unit) × (Bool) × Unit) : evBody CC { call := X, loop := L } 74 (shsInj [(.cell .ptr), (.agg [(.int .i64), (.int .i64), (.int .i64), (.int .i64), (.int .u32), (.int .u32), (.int .u32), (.int .u32), (.int .u32), (.int .u32), (.int .u32)]), (.cell .bool)] x) = f74 X L x := by kernel_rfl

/-- hayrick/entry.May -/
def f75c0 (X : XT) (L : LoopI) (x : (SL) × Unit) (s3_ : (Int) × Unit) (b7_ : Nat) (go9_ : ((Bool) × Unit) → M (((Int) × Unit) ⊕ ((Unit) ⊕ (((Bool) × Unit) ⊕ (Unit))))) (x14_ : ByteArray) : M (((Int) × Unit) ⊕ ((Unit) ⊕ (((Bool) × Unit) ⊕ (Unit)))) :=
 M.callS (.one (.cell .bool)) (X (.call 14 [(.string x14_)])) fun (r15_ : Bool) =>
 M.ite (!r15_)
 (go9_ (true, ()))
 (M.ite (ltB 0 s3_.1)
 (let v18_ : Int := subW .i64 s3_.1 1
 M.guard (inB v18_ x.1.2.1)
 (M.deref x.1.1 fun a19_ =>
 M.load (.cell .string) 1 ((a19_.add ((Int.toNat v18_) * 2)).add 1) fun (x20_ : ByteArray) =>
 M.load (.cell .string) 1 ((Addr.mk b7_ 0 none).add 1) fun (x21_ : ByteArray) =>
 M.callS (.one (.cell (.int .i64))) (X (.call 81 [(.string x20_), (.string x21_)])) fun (r22_ : Int) =>
 go9_ ((leB 0 r22_), ())))
 (go9_ (false, ())))
def f75c1 (X : XT) (L : LoopI) (x : (SL) × Unit) (s3_ : (Int) × Unit) (x6_ : Int × ByteArray × Unit) (b7_ : Nat) : M (((Int) × Unit) ⊕ ((Unit) ⊕ (((Bool) × Unit) ⊕ (Unit)))) :=
 M.store (Addr.mk b7_ 0 none) [(.int .i64 x6_.1), (.string x6_.2.1)]
 (M.join (fun (j8_ : (Bool) × Unit) =>
 M.ite j8_.1
 (M.pure (.inr (.inr (.inl (false, ())))))
 (M.pure (.inl ((addW .i64 s3_.1 1), ())))) fun go9_ =>
 M.load (.cell (.int .i64)) 1 ((Addr.mk b7_ 0 none).add 0) fun (x11_ : Int) =>
 M.callS (.one (.cell .bool)) (X (.call 104 [(.int .i64 x11_)])) fun (r12_ : Bool) =>
 M.ite (!r12_)
 (go9_ (true, ()))
 (M.load (.cell .string) 1 ((Addr.mk b7_ 0 none).add 1) fun (x14_ : ByteArray) =>
 f75c0 X L x s3_ b7_ go9_ x14_))
def f75c2 (X : XT) (L : LoopI) (x : (SL) × Unit) (v2_ : Int) : M (Value) :=
 M.bind (L (σ := (Int) × Unit) (ρ := (Unit) ⊕ (((Bool) × Unit) ⊕ (Unit))) (fun s3_ =>
 M.ite (ltB s3_.1 v2_)
 (M.guard (inB s3_.1 x.1.2.1)
 (M.deref x.1.1 fun a5_ =>
 M.load (.agg [(.int .i64), .string]) 2 (a5_.add ((Int.toNat s3_.1) * 2)) fun (x6_ : Int × ByteArray × Unit) =>
 M.new (.cells (Row.ofList [(.int .i64 0), (.string st0)]) 47 false (0, 0) false) fun b7_ =>
 f75c1 X L x s3_ x6_ b7_))
 (M.pure (.inr (.inl (()))))) (0, ())) <| M.sum (fun (j24_ : Unit) =>
 M.pure (.bool true)) (M.sum (fun (j25_ : (Bool) × Unit) =>
 M.pure (.bool j25_.1)) (fun _ => M.stuck))
def f75 (X : XT) (L : LoopI) (x : (SL) × Unit) : M Value :=
 M.ite (ltB 64 ((x.1.2.1 : Nat) : Int))
 (M.pure (.bool false))
 (f75c2 X L x ((x.1.2.1 : Nat) : Int))

theorem e75 (X : XT) (L : LoopI) (x : (SL) × Unit) : evBody CC { call := X, loop := L } 75 (shsInj [(.cell .slice)] x) = f75 X L x := by kernel_rfl

/-- hayrick/hayrickref12.May -/
def f76c0 (X : XT) (L : LoopI) (x : (SL) × Unit) (s2_ : (Int) × Unit) (go8_ : ((Bool) × Unit) → M (((Int) × Unit) ⊕ ((Unit) ⊕ (((Bool) × Unit) ⊕ (Unit))))) : M (((Int) × Unit) ⊕ ((Unit) ⊕ (((Bool) × Unit) ⊕ (Unit)))) :=
 M.ite (ltB 0 s2_.1)
 (let v11_ : Int := subW .i64 s2_.1 1
 M.guard (inB v11_ x.1.2.1)
 (M.deref x.1.1 fun a12_ =>
 M.load (.cell .string) 1 ((a12_.add ((Int.toNat v11_) * 2)).add 1) fun (x13_ : ByteArray) =>
 M.guard (inB s2_.1 x.1.2.1)
 (M.deref x.1.1 fun a14_ =>
 M.load (.cell .string) 1 ((a14_.add ((Int.toNat s2_.1) * 2)).add 1) fun (x15_ : ByteArray) =>
 M.callS (.one (.cell (.int .i64))) (X (.call 105 [(.string x13_), (.string x15_)])) fun (r16_ : Int) =>
 go8_ ((!(eqB r16_ (-1))), ()))))
 (go8_ (false, ()))
def f76c1 (X : XT) (L : LoopI) (x : (SL) × Unit) (s2_ : (Int) × Unit) (go6_ : ((Bool) × Unit) → M (((Int) × Unit) ⊕ ((Unit) ⊕ (((Bool) × Unit) ⊕ (Unit))))) (a18_ : Addr) : M (((Int) × Unit) ⊕ ((Unit) ⊕ (((Bool) × Unit) ⊕ (Unit)))) :=
 M.load (.cell (.int .i64)) 1 ((a18_.add ((Int.toNat s2_.1) * 2)).add 0) fun (x19_ : Int) =>
 M.ite (ltB x19_ 1)
 (go6_ (true, ()))
 (M.guard (inB s2_.1 x.1.2.1)
 (M.deref x.1.1 fun a21_ =>
 M.load (.cell (.int .i64)) 1 ((a21_.add ((Int.toNat s2_.1) * 2)).add 0) fun (x22_ : Int) =>
 M.ite (ltB 64 x22_)
 (go6_ (true, ()))
 (M.guard (inB s2_.1 x.1.2.1)
 (M.deref x.1.1 fun a24_ =>
 M.load (.cell .string) 1 ((a24_.add ((Int.toNat s2_.1) * 2)).add 1) fun (x25_ : ByteArray) =>
 M.callS (.one (.cell .bool)) (X (.call 18 [(.string x25_)])) fun (r26_ : Bool) =>
 go6_ ((!r26_), ())))))
def f76c2 (X : XT) (L : LoopI) (x : (SL) × Unit) : M (Value) :=
 M.bind (L (σ := (Int) × Unit) (ρ := (Unit) ⊕ (((Bool) × Unit) ⊕ (Unit))) (fun s2_ =>
 M.ite (ltB s2_.1 ((x.1.2.1 : Nat) : Int))
 (M.join (fun (j5_ : (Bool) × Unit) =>
 M.ite j5_.1
 (M.pure (.inr (.inr (.inl (false, ())))))
 (M.join (fun (j7_ : (Bool) × Unit) =>
 M.ite j7_.1
 (M.pure (.inr (.inr (.inl (false, ())))))
 (M.pure (.inl ((addW .i64 s2_.1 1), ())))) fun go8_ =>
 f76c0 X L x s2_ go8_)) fun go6_ =>
 M.guard (inB s2_.1 x.1.2.1)
 (M.deref x.1.1 fun a18_ =>
 f76c1 X L x s2_ go6_ a18_))
 (M.pure (.inr (.inl (()))))) (0, ())) <| M.sum (fun (j28_ : Unit) =>
 M.pure (.bool true)) (M.sum (fun (j29_ : (Bool) × Unit) =>
 M.pure (.bool j29_.1)) (fun _ => M.stuck))
def f76 (X : XT) (L : LoopI) (x : (SL) × Unit) : M Value :=
 M.ite (ltB 64 ((x.1.2.1 : Nat) : Int))
 (M.pure (.bool false))
 (f76c2 X L x)

theorem e76 (X : XT) (L : LoopI) (x : (SL) × Unit) : evBody CC { call := X, loop := L } 76 (shsInj [(.cell .slice)] x) = f76 X L x := by kernel_rfl

/-- hayrick/files.Read -/
def f77c0 (X : XT) (L : LoopI) (x : (PA) × (Int) × (Int) × (Int) × Unit) (b0_ : Nat) (b1_ : Nat) (b2_ : Nat) (b3_ : Nat) (x4_ : PA) : M (Value) :=
 M.callS (.one (.cell (.int .i64))) (X (.call 106 [(.pointer x4_), (.int .i64 x.2.1), (.func (.func 107) ⟨[]⟩ ⟨[(.pointer (some (Addr.mk b1_ 0 none))), (.pointer (some (Addr.mk b2_ 0 none))), (.pointer (some (Addr.mk b0_ 0 none))), (.pointer (some (Addr.mk b3_ 0 none)))]⟩)])) fun (r5_ : Int) =>
 M.load (.cell .slice) 1 (Addr.mk b3_ 0 none) fun (x6_ : SL) =>
 M.store (Addr.mk b3_ 0 none) [(.slice x6_.1 x6_.2.1 x6_.2.2)]
 (M.load (.cell .slice) 1 (Addr.mk b3_ 0 none) fun (x7_ : SL) =>
 M.pure (.tuple ⟨[(.slice x7_.1 x7_.2.1 x7_.2.2), (.int .i64 r5_)]⟩))
def f77 (X : XT) (L : LoopI) (x : (PA) × (Int) × (Int) × (Int) × Unit) : M Value :=
 M.new (.cells (Row.ofList [(.pointer x.1)]) 42 false (0, 0) false) fun b0_ =>
 M.new (.cells (Row.ofList [(.int .i64 x.2.2.1)]) 3 false (0, 0) false) fun b1_ =>
 M.new (.cells (Row.ofList [(.int .i64 x.2.2.2.1)]) 3 false (0, 0) false) fun b2_ =>
 M.new (.cells (Row.ofList [(.slice none 0 0)]) 61 false (0, 0) false) fun b3_ =>
 M.load (.cell .ptr) 1 (Addr.mk b0_ 0 none) fun (x4_ : PA) =>
 f77c0 X L x b0_ b1_ b2_ b3_ x4_

theorem e77 (X : XT) (L : LoopI) (x : (PA) × (Int) × (Int) × (Int) × Unit) : evBody CC { call := X, loop := L } 77 (shsInj [(.cell .ptr), (.cell (.int .i64)), (.cell (.int .i64)), (.cell (.int .i64))] x) = f77 X L x := by kernel_rfl

/-- slices.IndexFunc[[]hayrick/api.Entry,hayrick/api.Entry] -/
def f79c0 (X : XT) (L : LoopI) (x : (SL) × (Value) × Unit) (v0_ : Int) : M (Value) :=
 M.bind (L (σ := (Int) × Unit) (ρ := (Unit) ⊕ (((Int) × Unit) ⊕ (Unit))) (fun s1_ =>
 M.ite (ltB s1_.1 v0_)
 (M.guard (inB s1_.1 x.1.2.1)
 (M.deref x.1.1 fun a3_ =>
 M.load (.agg [(.int .i64), .string]) 2 (a3_.add ((Int.toNat s1_.1) * 2)) fun (x4_ : Int × ByteArray × Unit) =>
 callV CC ⟨X, L⟩ x.2.1 [(.agg ⟨[(.int .i64 x4_.1), (.string x4_.2.1)]⟩)] fun w6_ => M.need (RSh.prj (.one (.cell .bool)) w6_) fun (r5_ : Bool) =>
 M.ite r5_
 (M.pure (.inr (.inr (.inl (s1_.1, ())))))
 (M.pure (.inl ((addW .i64 s1_.1 1), ())))))
 (M.pure (.inr (.inl (()))))) (0, ())) <| M.sum (fun (j8_ : Unit) =>
 M.pure (.int .i64 (-1))) (M.sum (fun (j9_ : (Int) × Unit) =>
 M.pure (.int .i64 j9_.1)) (fun _ => M.stuck))
def f79 (X : XT) (L : LoopI) (x : (SL) × (Value) × Unit) : M Value :=
 f79c0 X L x ((x.1.2.1 : Nat) : Int)

theorem e79 (X : XT) (L : LoopI) (x : (SL) × (Value) × Unit) : evBody CC { call := X, loop := L } 79 (shsInj [(.cell .slice), (.cell .val)] x) = f79 X L x := by kernel_rfl

/-- hayrick/entry.Find$1 -/
def f80 (X : XT) (L : LoopI) (x : (Int × ByteArray × Unit) × (PA) × Unit) : M Value :=
 M.new (.cells (Row.ofList [(.int .i64 x.1.1), (.string x.1.2.1)]) 47 false (0, 0) false) fun b0_ =>
 M.load (.cell .string) 1 ((Addr.mk b0_ 0 none).add 1) fun (x1_ : ByteArray) =>
 M.deref x.2.1 fun a2_ =>
 M.load (.cell .string) 1 a2_ fun (x3_ : ByteArray) =>
 M.callS (.one (.cell (.int .i64))) (X (.call 81 [(.string x1_), (.string x3_)])) fun (r4_ : Int) =>
 M.pure (.bool (leB 0 r4_))

theorem e80 (X : XT) (L : LoopI) (x : (Int × ByteArray × Unit) × (PA) × Unit) : evBody CC { call := X, loop := L } 80 (shsInj [(.agg [(.int .i64), .string]), (.cell .ptr)] x) = f80 X L x := by kernel_rfl

/-- hayrick/names.Compare -/
def f81 (X : XT) (L : LoopI) (x : (ByteArray) × (ByteArray) × Unit) : M Value :=
 M.callS (.one (.cell .slice)) (X (.call 113 [(.string x.1)])) fun (r0_ : SL) =>
 M.callS (.one (.cell .slice)) (X (.call 113 [(.string x.2.1)])) fun (r1_ : SL) =>
 M.callS (.one (.cell (.int .i64))) (X (.call 112 [(.slice r0_.1 r0_.2.1 r0_.2.2), (.slice r1_.1 r1_.2.1 r1_.2.2)])) fun (r2_ : Int) =>
 M.ite (!(eqB r2_ 0))
 (M.pure (.int .i64 r2_))
 (M.callS (.one (.cell (.int .i64))) (X (.call 114 [(.string x.1), (.string x.2.1)])) fun (r4_ : Int) =>
 M.pure (.int .i64 r4_))

theorem e81 (X : XT) (L : LoopI) (x : (ByteArray) × (ByteArray) × Unit) : evBody CC { call := X, loop := L } 81 (shsInj [(.cell .string), (.cell .string)] x) = f81 X L x := by kernel_rfl

/-- (*hayrick/store.Store).Load -/
def f82c0 (X : XT) (L : LoopI) (b0_ : Nat) (r1_ : Int) : M (Value) :=
 M.load (.agg [(.int .i64), (.int .i64), (.int .i64), (.int .i64), (.int .u32), (.int .u32), (.int .u32), (.int .u32), (.int .u32), (.int .u32), (.int .u32)]) 11 (Addr.mk b0_ 0 none) fun (x3_ : Int × Int × Int × Int × Int × Int × Int × Int × Int × Int × Int × Unit) =>
 M.pure (.tuple ⟨[(.agg ⟨[(.int .i64 x3_.1), (.int .i64 x3_.2.1), (.int .i64 x3_.2.2.1), (.int .i64 x3_.2.2.2.1), (.int .u32 x3_.2.2.2.2.1), (.int .u32 x3_.2.2.2.2.2.1), (.int .u32 x3_.2.2.2.2.2.2.1), (.int .u32 x3_.2.2.2.2.2.2.2.1), (.int .u32 x3_.2.2.2.2.2.2.2.2.1), (.int .u32 x3_.2.2.2.2.2.2.2.2.2.1), (.int .u32 x3_.2.2.2.2.2.2.2.2.2.2.1)]⟩), (.int .i64 r1_)]⟩)
def f82c1 (X : XT) (L : LoopI) (b0_ : Nat) : M (Value) :=
 M.load (.agg [(.int .i64), (.int .i64), (.int .i64), (.int .i64), (.int .u32), (.int .u32), (.int .u32), (.int .u32), (.int .u32), (.int .u32), (.int .u32)]) 11 (Addr.mk b0_ 0 none) fun (x8_ : Int × Int × Int × Int × Int × Int × Int × Int × Int × Int × Int × Unit) =>
 M.pure (.tuple ⟨[(.agg ⟨[(.int .i64 x8_.1), (.int .i64 x8_.2.1), (.int .i64 x8_.2.2.1), (.int .i64 x8_.2.2.2.1), (.int .u32 x8_.2.2.2.2.1), (.int .u32 x8_.2.2.2.2.2.1), (.int .u32 x8_.2.2.2.2.2.2.1), (.int .u32 x8_.2.2.2.2.2.2.2.1), (.int .u32 x8_.2.2.2.2.2.2.2.2.1), (.int .u32 x8_.2.2.2.2.2.2.2.2.2.1), (.int .u32 x8_.2.2.2.2.2.2.2.2.2.2.1)]⟩), (.int .i64 6)]⟩)
def f82c2 (X : XT) (L : LoopI) (b0_ : Nat) (r11_ : (SL) × (Int) × Unit) : M (Value) :=
 M.load (.agg [(.int .i64), (.int .i64), (.int .i64), (.int .i64), (.int .u32), (.int .u32), (.int .u32), (.int .u32), (.int .u32), (.int .u32), (.int .u32)]) 11 (Addr.mk b0_ 0 none) fun (x13_ : Int × Int × Int × Int × Int × Int × Int × Int × Int × Int × Int × Unit) =>
 M.pure (.tuple ⟨[(.agg ⟨[(.int .i64 x13_.1), (.int .i64 x13_.2.1), (.int .i64 x13_.2.2.1), (.int .i64 x13_.2.2.2.1), (.int .u32 x13_.2.2.2.2.1), (.int .u32 x13_.2.2.2.2.2.1), (.int .u32 x13_.2.2.2.2.2.2.1), (.int .u32 x13_.2.2.2.2.2.2.2.1), (.int .u32 x13_.2.2.2.2.2.2.2.2.1), (.int .u32 x13_.2.2.2.2.2.2.2.2.2.1), (.int .u32 x13_.2.2.2.2.2.2.2.2.2.2.1)]⟩), (.int .i64 r11_.2.1)]⟩)
def f82c3 (X : XT) (L : LoopI) (b0_ : Nat) : M (Value) :=
 M.load (.agg [(.int .i64), (.int .i64), (.int .i64), (.int .i64), (.int .u32), (.int .u32), (.int .u32), (.int .u32), (.int .u32), (.int .u32), (.int .u32)]) 11 (Addr.mk b0_ 0 none) fun (x18_ : Int × Int × Int × Int × Int × Int × Int × Int × Int × Int × Int × Unit) =>
 M.pure (.tuple ⟨[(.agg ⟨[(.int .i64 x18_.1), (.int .i64 x18_.2.1), (.int .i64 x18_.2.2.1), (.int .i64 x18_.2.2.2.1), (.int .u32 x18_.2.2.2.2.1), (.int .u32 x18_.2.2.2.2.2.1), (.int .u32 x18_.2.2.2.2.2.2.1), (.int .u32 x18_.2.2.2.2.2.2.2.1), (.int .u32 x18_.2.2.2.2.2.2.2.2.1), (.int .u32 x18_.2.2.2.2.2.2.2.2.2.1), (.int .u32 x18_.2.2.2.2.2.2.2.2.2.2.1)]⟩), (.int .i64 5)]⟩)
def f82c4 (X : XT) (L : LoopI) (b0_ : Nat) : M (Value) :=
 M.load (.agg [(.int .i64), (.int .i64), (.int .i64), (.int .i64), (.int .u32), (.int .u32), (.int .u32), (.int .u32), (.int .u32), (.int .u32), (.int .u32)]) 11 (Addr.mk b0_ 0 none) fun (x20_ : Int × Int × Int × Int × Int × Int × Int × Int × Int × Int × Int × Unit) =>
 M.pure (.tuple ⟨[(.agg ⟨[(.int .i64 x20_.1), (.int .i64 x20_.2.1), (.int .i64 x20_.2.2.1), (.int .i64 x20_.2.2.2.1), (.int .u32 x20_.2.2.2.2.1), (.int .u32 x20_.2.2.2.2.2.1), (.int .u32 x20_.2.2.2.2.2.2.1), (.int .u32 x20_.2.2.2.2.2.2.2.1), (.int .u32 x20_.2.2.2.2.2.2.2.2.1), (.int .u32 x20_.2.2.2.2.2.2.2.2.2.1), (.int .u32 x20_.2.2.2.2.2.2.2.2.2.2.1)]⟩), (.int .i64 0)]⟩)
def f82c5 (X : XT) (L : LoopI) (b0_ : Nat) (b15_ : Nat) : M (Value) :=
 M.load (.agg [(.int .i64), (.int .i64), (.int .i64), (.int .i64), (.int .u32), (.int .u32), (.int .u32), (.int .u32), (.int .u32), (.int .u32), (.int .u32)]) 11 (Addr.mk b15_ 0 none) fun (x19_ : Int × Int × Int × Int × Int × Int × Int × Int × Int × Int × Int × Unit) =>
 M.store (Addr.mk b0_ 0 none) [(.int .i64 x19_.1), (.int .i64 x19_.2.1), (.int .i64 x19_.2.2.1), (.int .i64 x19_.2.2.2.1), (.int .u32 x19_.2.2.2.2.1), (.int .u32 x19_.2.2.2.2.2.1), (.int .u32 x19_.2.2.2.2.2.2.1), (.int .u32 x19_.2.2.2.2.2.2.2.1), (.int .u32 x19_.2.2.2.2.2.2.2.2.1), (.int .u32 x19_.2.2.2.2.2.2.2.2.2.1), (.int .u32 x19_.2.2.2.2.2.2.2.2.2.2.1)]
 (f82c4 X L b0_)
def f82c6 (X : XT) (L : LoopI) (x : (PA) × (Int) × Unit) (b0_ : Nat) (r14_ : (Int × Int × Int × Int × Int × Int × Int × Int × Int × Int × Int × Unit) × (Int) × Unit) (b15_ : Nat) : M (Value) :=
 M.store (Addr.mk b15_ 0 none) [(.int .i64 r14_.1.1), (.int .i64 r14_.1.2.1), (.int .i64 r14_.1.2.2.1), (.int .i64 r14_.1.2.2.2.1), (.int .u32 r14_.1.2.2.2.2.1), (.int .u32 r14_.1.2.2.2.2.2.1), (.int .u32 r14_.1.2.2.2.2.2.2.1), (.int .u32 r14_.1.2.2.2.2.2.2.2.1), (.int .u32 r14_.1.2.2.2.2.2.2.2.2.1), (.int .u32 r14_.1.2.2.2.2.2.2.2.2.2.1), (.int .u32 r14_.1.2.2.2.2.2.2.2.2.2.2.1)]
 (M.join (fun (j16_ : (Bool) × Unit) =>
 M.ite j16_.1
 (M.store (Addr.mk b0_ 0 none) [(.int .i64 0), (.int .i64 0), (.int .i64 0), (.int .i64 0), (.int .u32 0), (.int .u32 0), (.int .u32 0), (.int .u32 0), (.int .u32 0), (.int .u32 0), (.int .u32 0)]
 (f82c3 X L b0_))
 (f82c5 X L b0_ b15_)) fun go17_ =>
 M.ite (!(eqB r14_.2.1 0))
 (go17_ (true, ()))
 (M.load (.cell (.int .i64)) 1 ((Addr.mk b15_ 0 none).add 0) fun (x22_ : Int) =>
 go17_ ((!(eqB x22_ x.2.1)), ())))
def f82c7 (X : XT) (L : LoopI) (x : (PA) × (Int) × Unit) (b0_ : Nat) (r11_ : (SL) × (Int) × Unit) : M (Value) :=
 M.callS (.tuple [(.agg [(.int .i64), (.int .i64), (.int .i64), (.int .i64), (.int .u32), (.int .u32), (.int .u32), (.int .u32), (.int .u32), (.int .u32), (.int .u32)]), (.cell (.int .i64))]) (X (.call 116 [(.slice r11_.1.1 r11_.1.2.1 r11_.1.2.2)])) fun (r14_ : (Int × Int × Int × Int × Int × Int × Int × Int × Int × Int × Int × Unit) × (Int) × Unit) =>
 M.new (.cells (Row.ofList [(.int .i64 0), (.int .i64 0), (.int .i64 0), (.int .i64 0), (.int .u32 0), (.int .u32 0), (.int .u32 0), (.int .u32 0), (.int .u32 0), (.int .u32 0), (.int .u32 0)]) 76 false (0, 0) false) fun b15_ =>
 f82c6 X L x b0_ r14_ b15_
def f82c8 (X : XT) (L : LoopI) (x : (PA) × (Int) × Unit) (b0_ : Nat) (x6_ : Int) (v7_ : Bool) : M (Value) :=
 M.ite v7_
 (M.store (Addr.mk b0_ 0 none) [(.int .i64 0), (.int .i64 0), (.int .i64 0), (.int .i64 0), (.int .u32 0), (.int .u32 0), (.int .u32 0), (.int .u32 0), (.int .u32 0), (.int .u32 0), (.int .u32 0)]
 (f82c1 X L b0_))
 (M.deref x.1 fun a9_ =>
 M.load (.cell .ptr) 1 (a9_.add 0) fun (x10_ : PA) =>
 M.callS (.tuple [(.cell .slice), (.cell (.int .i64))]) (X (.call 115 [(.pointer x10_), (.int .u32 x6_)])) fun (r11_ : (SL) × (Int) × Unit) =>
 M.ite (!(eqB r11_.2.1 0))
 (M.store (Addr.mk b0_ 0 none) [(.int .i64 0), (.int .i64 0), (.int .i64 0), (.int .i64 0), (.int .u32 0), (.int .u32 0), (.int .u32 0), (.int .u32 0), (.int .u32 0), (.int .u32 0), (.int .u32 0)]
 (f82c2 X L b0_ r11_))
 (f82c7 X L x b0_ r11_))
def f82c9 (X : XT) (L : LoopI) (x : (PA) × (Int) × Unit) (b0_ : Nat) : M (Value) :=
 M.callS (.one (.cell (.int .i64))) (X (.call 94 [(.pointer x.1), (.int .i64 x.2.1)])) fun (r1_ : Int) =>
 M.ite (!(eqB r1_ 0))
 (M.store (Addr.mk b0_ 0 none) [(.int .i64 0), (.int .i64 0), (.int .i64 0), (.int .i64 0), (.int .u32 0), (.int .u32 0), (.int .u32 0), (.int .u32 0), (.int .u32 0), (.int .u32 0), (.int .u32 0)]
 (f82c0 X L b0_ r1_))
 (let v4_ : Int := subW .i64 x.2.1 1
 M.deref x.1 fun a5_ =>
 M.guard (inB v4_ 64)
 (M.load (.cell (.int .u32)) 1 ((a5_.add 1).add ((Int.toNat v4_) * 1)) fun (x6_ : Int) =>
 f82c8 X L x b0_ x6_ (eqB x6_ 0)))
def f82 (X : XT) (L : LoopI) (x : (PA) × (Int) × Unit) : M Value :=
 M.new (.cells (Row.ofList [(.int .i64 0), (.int .i64 0), (.int .i64 0), (.int .i64 0), (.int .u32 0), (.int .u32 0), (.int .u32 0), (.int .u32 0), (.int .u32 0), (.int .u32 0), (.int .u32 0)]) 76 false (0, 0) false) fun b0_ =>
 f82c9 X L x b0_

theorem e82 (X : XT) (L : LoopI) (x : (PA) × (Int) × Unit) : evBody CC { call := X, loop := L } 82 (shsInj [(.cell .ptr), (.cell (.int .i64))] x) = f82 X L x := by kernel_rfl

/-- hayrick/array.New -/
def f83c0 (X : XT) (L : LoopI) (x : (Int) × (Int) × Unit) (b2_ : Nat) (s3_ : (Int) × Unit) (x5_ : SL) : M (((Int) × Unit) ⊕ ((Unit) ⊕ (Unit))) :=
 M.guard (decide (0 ≤ x.2.1) && decide (x.2.1 ≤ x.2.1) && decide ((64 : Int) * x.2.1 ≤ 2 ^ 48))
 (M.new (.cells (Row.rep (zc 328) (Int.toNat x.2.1)) 328 false (0, 0) false) fun b6_ =>
 M.new (.cells (Row.ofList [(.slice (some (Addr.mk b6_ 0 none)) (Int.toNat x.2.1) (Int.toNat x.2.1))]) 227 false (0, 0) false) fun b7_ =>
 M.append 227 1 24 x5_.1 x5_.2.1 x5_.2.2 (.slice (some (Addr.mk b7_ 0 none)) 1 1) fun a8_ n9_ c10_ =>
 M.store ((Addr.mk b2_ 0 none).add 1) [(.slice a8_ n9_ c10_)]
 (M.pure (.inl ((addW .i64 s3_.1 1), ()))))
def f83c1 (X : XT) (L : LoopI) (x : (Int) × (Int) × Unit) (j0_ : (Bool) × Unit) : M (Value) :=
 M.ite j0_.1
 (M.pure (.tuple ⟨[(.pointer none), (.int .i64 1)]⟩))
 (M.new (.cells (Row.ofList [(.int .i64 x.2.1), (.slice none 0 0), (.slice none 0 0), (.int .i64 0), (.bool false)]) 226 false (0, 0) false) fun b2_ =>
 M.bind (L (σ := (Int) × Unit) (ρ := (Unit) ⊕ (Unit)) (fun s3_ =>
 M.ite (ltB s3_.1 x.1)
 (M.load (.cell .slice) 1 ((Addr.mk b2_ 0 none).add 1) fun (x5_ : SL) =>
 f83c0 X L x b2_ s3_ x5_)
 (M.pure (.inr (.inl (()))))) (0, ())) <| M.sum (fun (j12_ : Unit) =>
 M.pure (.tuple ⟨[(.pointer (some (Addr.mk b2_ 0 none))), (.int .i64 0)]⟩)) (fun _ => M.stuck))
def f83 (X : XT) (L : LoopI) (x : (Int) × (Int) × Unit) : M Value :=
 M.join (fun (j0_ : (Bool) × Unit) =>
 f83c1 X L x j0_) fun go1_ =>
 M.ite (ltB x.1 1)
 (go1_ (true, ()))
 (M.ite (ltB 255 x.1)
 (go1_ (true, ()))
 (M.ite (ltB x.2.1 1)
 (go1_ (true, ()))
 (go1_ ((ltB 4096 x.2.1), ()))))

theorem e83 (X : XT) (L : LoopI) (x : (Int) × (Int) × Unit) : evBody CC { call := X, loop := L } 83 (shsInj [(.cell (.int .i64)), (.cell (.int .i64))] x) = f83 X L x := by kernel_rfl

/-- hayrick/hayrickref06.New -/
def f84c0 (X : XT) (L : LoopI) (x : (Int) × (Int) × Unit) (b2_ : Nat) (s3_ : (Int) × Unit) (x5_ : SL) : M (((Int) × Unit) ⊕ ((Unit) ⊕ (Unit))) :=
 M.callS (.one (.agg [.slice, .bool])) (X (.call 117 [(.int .i64 x.2.1)])) fun (r6_ : SL × Bool × Unit) =>
 M.load (.cell .slice) 1 ((Addr.mk b2_ 0 none).add 0) fun (x7_ : SL) => cond (veqv (.slice x7_.1 x7_.2.1 x7_.2.2) (.slice x5_.1 x5_.2.1 x5_.2.2)) (M.new (.cells (Row.ofList [(.slice r6_.1.1 r6_.1.2.1 r6_.1.2.2), (.bool r6_.2.1)]) 233 false (0, 0) false) fun b8_ =>
 M.append 233 2 32 x5_.1 x5_.2.1 x5_.2.2 (.slice (some (Addr.mk b8_ 0 none)) 1 1) fun a9_ n10_ c11_ =>
 M.store ((Addr.mk b2_ 0 none).add 0) [(.slice a9_ n10_ c11_)]
 (M.pure (.inl ((addW .i64 s3_.1 1), ())))) M.stuck
def f84c1 (X : XT) (L : LoopI) (x : (Int) × (Int) × Unit) (j0_ : (Bool) × Unit) : M (Value) :=
 M.ite j0_.1
 (M.pure (.tuple ⟨[(.pointer none), (.int .i64 1)]⟩))
 (M.new (.cells (Row.ofList [(.slice none 0 0), (.int .i64 x.2.1), (.slice none 0 0), (.int .i64 0), (.bool false)]) 231 false (0, 0) false) fun b2_ =>
 M.bind (L (σ := (Int) × Unit) (ρ := (Unit) ⊕ (Unit)) (fun s3_ =>
 M.ite (ltB s3_.1 x.1)
 (M.load (.cell .slice) 1 ((Addr.mk b2_ 0 none).add 0) fun (x5_ : SL) =>
 f84c0 X L x b2_ s3_ x5_)
 (M.pure (.inr (.inl (()))))) (0, ())) <| M.sum (fun (j13_ : Unit) =>
 M.pure (.tuple ⟨[(.pointer (some (Addr.mk b2_ 0 none))), (.int .i64 0)]⟩)) (fun _ => M.stuck))
def f84 (X : XT) (L : LoopI) (x : (Int) × (Int) × Unit) : M Value :=
 M.join (fun (j0_ : (Bool) × Unit) =>
 f84c1 X L x j0_) fun go1_ =>
 M.ite (ltB x.1 1)
 (go1_ (true, ()))
 (M.ite (ltB 255 x.1)
 (go1_ (true, ()))
 (M.ite (ltB x.2.1 1)
 (go1_ (true, ()))
 (go1_ ((ltB 4096 x.2.1), ()))))

theorem e84 (X : XT) (L : LoopI) (x : (Int) × (Int) × Unit) : evBody CC { call := X, loop := L } 84 (shsInj [(.cell (.int .i64)), (.cell (.int .i64))] x) = f84 X L x := by kernel_rfl

/-- hayrick/stripe.New -/
def f85c0 (X : XT) (L : LoopI) (x : (PA) × (Int × Int × Int × Unit) × (Int) × Unit) (b0_ : Nat) (go4_ : ((Bool) × Unit) → M (Value)) (x16_ : Int) (r17_ : Int) : M (Value) :=
 M.load (.cell (.int .i64)) 1 ((Addr.mk b0_ 0 none).add 1) fun (x18_ : Int) => cond (veqv (.int .i64 x18_) (.int .i64 x16_)) (M.ite (!(eqB r17_ x16_))
 (go4_ (true, ()))
 (M.load (.cell (.int .i64)) 1 ((Addr.mk b0_ 0 none).add 2) fun (x20_ : Int) =>
 M.callS (.one (.cell (.int .i64))) (X (.call 120 [(.pointer x.1)])) fun (r22_ : Int) =>
 M.load (.cell (.int .i64)) 1 ((Addr.mk b0_ 0 none).add 2) fun (x23_ : Int) => cond (veqv (.int .i64 x23_) (.int .i64 x20_)) (go4_ ((ltB (subW .i64 r22_ x.2.2.1) (mulW .i64 x20_ 8)), ())) M.stuck)) M.stuck
def f85c1 (X : XT) (L : LoopI) (x : (PA) × (Int × Int × Int × Unit) × (Int) × Unit) (b0_ : Nat) (go4_ : ((Bool) × Unit) → M (Value)) (v10_ : Bool) : M (Value) :=
 M.ite v10_
 (go4_ (true, ()))
 (M.load (.cell (.int .i64)) 1 ((Addr.mk b0_ 0 none).add 2) fun (x11_ : Int) =>
 M.ite (ltB x11_ 1)
 (go4_ (true, ()))
 (M.load (.cell (.int .i64)) 1 ((Addr.mk b0_ 0 none).add 2) fun (x13_ : Int) =>
 M.ite (ltB 128 x13_)
 (go4_ (true, ()))
 (M.ite (ltB x.2.2.1 0)
 (go4_ (true, ()))
 (M.load (.cell (.int .i64)) 1 ((Addr.mk b0_ 0 none).add 1) fun (x16_ : Int) =>
 M.callS (.one (.cell (.int .i64))) (X (.call 118 [(.pointer x.1)])) fun (r17_ : Int) =>
 f85c0 X L x b0_ go4_ x16_ r17_))))
def f85c2 (X : XT) (L : LoopI) (x : (PA) × (Int × Int × Int × Unit) × (Int) × Unit) (b0_ : Nat) : M (Value) :=
 M.join (fun (j3_ : (Bool) × Unit) =>
 M.ite j3_.1
 (M.pure (.tuple ⟨[(.pointer none), (.int .i64 1)]⟩))
 (M.load (.agg [(.int .i64), (.int .i64), (.int .i64)]) 3 (Addr.mk b0_ 0 none) fun (x5_ : Int × Int × Int × Unit) =>
 M.new (.cells (Row.ofList [(.pointer x.1), (.int .i64 x5_.1), (.int .i64 x5_.2.1), (.int .i64 x5_.2.2.1), (.int .i64 x.2.2.1)]) 237 false (0, 0) false) fun b6_ =>
 M.pure (.tuple ⟨[(.pointer (some (Addr.mk b6_ 0 none))), (.int .i64 0)]⟩))) fun go4_ =>
 M.load (.cell (.int .i64)) 1 ((Addr.mk b0_ 0 none).add 0) fun (x7_ : Int) =>
 M.load (.cell (.int .i64)) 1 ((Addr.mk b0_ 0 none).add 1) fun (x8_ : Int) =>
 M.callS (.one (.cell .bool)) (X (.call 119 [(.int .i64 x7_), (.int .i64 x8_)])) fun (r9_ : Bool) =>
 f85c1 X L x b0_ go4_ (!r9_)
def f85 (X : XT) (L : LoopI) (x : (PA) × (Int × Int × Int × Unit) × (Int) × Unit) : M Value :=
 M.new (.cells (Row.ofList [(.int .i64 x.2.1.1), (.int .i64 x.2.1.2.1), (.int .i64 x.2.1.2.2.1)]) 160 false (0, 0) false) fun b0_ =>
 M.callS (.one (.cell (.int .i64))) (X (.call 118 [(.pointer x.1)])) fun (r1_ : Int) =>
 M.ite (eqB r1_ 0)
 (M.pure (.tuple ⟨[(.pointer none), (.int .i64 2)]⟩))
 (f85c2 X L x b0_)

theorem e85 (X : XT) (L : LoopI) (x : (PA) × (Int × Int × Int × Unit) × (Int) × Unit) : evBody CC { call := X, loop := L } 85 (shsInj [(.cell .ptr), (.agg [(.int .i64), (.int .i64), (.int .i64)]), (.cell (.int .i64))] x) = f85 X L x := by kernel_rfl

/-- hayrick/hayrickref08.New -/
def f86c0 (X : XT) (L : LoopI) (x : (PA) × (Int × Int × Int × Unit) × (Int) × Unit) (b0_ : Nat) (go4_ : ((Bool) × Unit) → M (Value)) (a7_ : Addr) : M (Value) :=
 M.load (.cell .slice) 1 (a7_.add 0) fun (x8_ : SL) =>
 M.load (.cell (.int .i64)) 1 ((Addr.mk b0_ 0 none).add 1) fun (x10_ : Int) =>
 M.ite (!(eqB ((x8_.2.1 : Nat) : Int) x10_))
 (go4_ (true, ()))
 (M.deref x.1 fun a12_ =>
 M.load (.cell (.int .i64)) 1 (a12_.add 1) fun (x13_ : Int) =>
 M.ite (ltB x13_ x.2.2.1)
 (go4_ (true, ()))
 (M.deref x.1 fun a15_ =>
 M.load (.cell (.int .i64)) 1 (a15_.add 1) fun (x16_ : Int) =>
 M.load (.cell (.int .i64)) 1 ((Addr.mk b0_ 0 none).add 2) fun (x18_ : Int) =>
 go4_ ((ltB (subW .i64 x16_ x.2.2.1) (mulW .i64 8 x18_)), ())))
def f86c1 (X : XT) (L : LoopI) (x : (PA) × (Int × Int × Int × Unit) × (Int) × Unit) (b0_ : Nat) : M (Value) :=
 M.join (fun (j3_ : (Bool) × Unit) =>
 M.ite j3_.1
 (M.pure (.tuple ⟨[(.pointer none), (.int .i64 1)]⟩))
 (M.load (.agg [(.int .i64), (.int .i64), (.int .i64)]) 3 (Addr.mk b0_ 0 none) fun (x5_ : Int × Int × Int × Unit) =>
 M.new (.cells (Row.ofList [(.pointer x.1), (.int .i64 x5_.1), (.int .i64 x5_.2.1), (.int .i64 x5_.2.2.1), (.int .i64 x.2.2.1)]) 184 false (0, 0) false) fun b6_ =>
 M.pure (.tuple ⟨[(.pointer (some (Addr.mk b6_ 0 none))), (.int .i64 0)]⟩))) fun go4_ =>
 M.deref x.1 fun a7_ =>
 f86c0 X L x b0_ go4_ a7_
def f86c2 (X : XT) (L : LoopI) (x : (PA) × (Int × Int × Int × Unit) × (Int) × Unit) (b0_ : Nat) (go2_ : ((Bool) × Unit) → M (Value)) : M (Value) :=
 M.load (.cell (.int .i64)) 1 ((Addr.mk b0_ 0 none).add 0) fun (x21_ : Int) =>
 M.load (.cell (.int .i64)) 1 ((Addr.mk b0_ 0 none).add 1) fun (x22_ : Int) =>
 M.callS (.one (.cell .bool)) (X (.call 121 [(.int .i64 x21_), (.int .i64 x22_)])) fun (r23_ : Bool) =>
 M.ite (!r23_)
 (go2_ (true, ()))
 (M.load (.cell (.int .i64)) 1 ((Addr.mk b0_ 0 none).add 2) fun (x25_ : Int) =>
 M.ite (ltB x25_ 1)
 (go2_ (true, ()))
 (M.load (.cell (.int .i64)) 1 ((Addr.mk b0_ 0 none).add 2) fun (x27_ : Int) =>
 M.ite (ltB 128 x27_)
 (go2_ (true, ()))
 (go2_ ((ltB x.2.2.1 0), ()))))
def f86 (X : XT) (L : LoopI) (x : (PA) × (Int × Int × Int × Unit) × (Int) × Unit) : M Value :=
 M.new (.cells (Row.ofList [(.int .i64 x.2.1.1), (.int .i64 x.2.1.2.1), (.int .i64 x.2.1.2.2.1)]) 160 false (0, 0) false) fun b0_ =>
 M.join (fun (j1_ : (Bool) × Unit) =>
 M.ite j1_.1
 (M.pure (.tuple ⟨[(.pointer none), (.int .i64 1)]⟩))
 (f86c1 X L x b0_)) fun go2_ =>
 f86c2 X L x b0_ go2_

theorem e86 (X : XT) (L : LoopI) (x : (PA) × (Int × Int × Int × Unit) × (Int) × Unit) : evBody CC { call := X, loop := L } 86 (shsInj [(.cell .ptr), (.agg [(.int .i64), (.int .i64), (.int .i64)]), (.cell (.int .i64))] x) = f86 X L x := by kernel_rfl

/-- (*hayrick/stripe.Stripes).Array -/
def f87 (X : XT) (L : LoopI) (x : (PA) × Unit) : M Value :=
 M.eqPtr x.1 none fun (q0_ : Bool) =>
 M.ite q0_
 (M.pure (.pointer none))
 (M.deref x.1 fun a1_ =>
 M.load (.cell .ptr) 1 (a1_.add 0) fun (x2_ : PA) =>
 M.pure (.pointer x2_))

theorem e87 (X : XT) (L : LoopI) (x : (PA) × Unit) : evBody CC { call := X, loop := L } 87 (shsInj [(.cell .ptr)] x) = f87 X L x := by kernel_rfl

/-- (*hayrick/stripe.Stripes).Geometry -/
def f88c0 (X : XT) (L : LoopI) (x : (PA) × Unit) (b0_ : Nat) (q1_ : Bool) : M (Value) :=
 M.ite q1_
 (M.store (Addr.mk b0_ 0 none) [(.int .i64 0), (.int .i64 0), (.int .i64 0)]
 (M.load (.agg [(.int .i64), (.int .i64), (.int .i64)]) 3 (Addr.mk b0_ 0 none) fun (x2_ : Int × Int × Int × Unit) =>
 M.pure (.agg ⟨[(.int .i64 x2_.1), (.int .i64 x2_.2.1), (.int .i64 x2_.2.2.1)]⟩)))
 (M.deref x.1 fun a3_ =>
 M.load (.agg [(.int .i64), (.int .i64), (.int .i64)]) 3 (a3_.add 1) fun (x4_ : Int × Int × Int × Unit) =>
 M.store (Addr.mk b0_ 0 none) [(.int .i64 x4_.1), (.int .i64 x4_.2.1), (.int .i64 x4_.2.2.1)]
 (M.load (.agg [(.int .i64), (.int .i64), (.int .i64)]) 3 (Addr.mk b0_ 0 none) fun (x5_ : Int × Int × Int × Unit) =>
 M.pure (.agg ⟨[(.int .i64 x5_.1), (.int .i64 x5_.2.1), (.int .i64 x5_.2.2.1)]⟩)))
def f88 (X : XT) (L : LoopI) (x : (PA) × Unit) : M Value :=
 M.new (.cells (Row.ofList [(.int .i64 0), (.int .i64 0), (.int .i64 0)]) 160 false (0, 0) false) fun b0_ =>
 M.eqPtr x.1 none fun (q1_ : Bool) =>
 f88c0 X L x b0_ q1_

theorem e88 (X : XT) (L : LoopI) (x : (PA) × Unit) : evBody CC { call := X, loop := L } 88 (shsInj [(.cell .ptr)] x) = f88 X L x := by kernel_rfl

/-- hayrick/logs.slots -/
def f89c0 (X : XT) (L : LoopI) (x : (SL) × (Int) × (Int) × Unit) (b0_ : Nat) (s2_ : (Int) × Unit) (x5_ : Int) : M (((Int) × Unit) ⊕ ((Unit) ⊕ (((Bool) × Unit) ⊕ (Unit)))) :=
 M.join (fun (j6_ : (Bool) × Unit) =>
 M.ite j6_.1
 (M.pure (.inr (.inr (.inl (false, ())))))
 (M.guard (inB x5_ (Int.toNat x.2.1))
 (M.store ((Addr.mk b0_ 0 none).add ((Int.toNat x5_) * 1)) [(.bool true)]
 (M.pure (.inl ((addW .i64 s2_.1 1), ())))))) fun go7_ =>
 M.ite (ltB x5_ 0)
 (go7_ (true, ()))
 (M.ite (leB x.2.1 x5_)
 (go7_ (true, ()))
 (M.guard (inB x5_ (Int.toNat x.2.1))
 (M.load (.cell .bool) 1 ((Addr.mk b0_ 0 none).add ((Int.toNat x5_) * 1)) fun (x11_ : Bool) =>
 M.ite x11_
 (go7_ (true, ()))
 (go7_ ((eqB x5_ x.2.2.1), ())))))
def f89c1 (X : XT) (L : LoopI) (x : (SL) × (Int) × (Int) × Unit) : M (Value) :=
 M.guard (decide (0 ≤ x.2.1) && decide (x.2.1 ≤ x.2.1) && decide ((1 : Int) * x.2.1 ≤ 2 ^ 48))
 (M.new (.cells (Row.rep [(.bool false)] (Int.toNat x.2.1)) 4 false (0, 0) false) fun b0_ =>
 M.bind (L (σ := (Int) × Unit) (ρ := (Unit) ⊕ (((Bool) × Unit) ⊕ (Unit))) (fun s2_ =>
 M.ite (ltB s2_.1 ((x.1.2.1 : Nat) : Int))
 (M.guard (inB s2_.1 x.1.2.1)
 (M.deref x.1.1 fun a4_ =>
 M.load (.cell (.int .i64)) 1 (a4_.add ((Int.toNat s2_.1) * 1)) fun (x5_ : Int) =>
 f89c0 X L x b0_ s2_ x5_))
 (M.pure (.inr (.inl (()))))) (0, ())) <| M.sum (fun (j13_ : Unit) =>
 M.pure (.bool true)) (M.sum (fun (j14_ : (Bool) × Unit) =>
 M.pure (.bool j14_.1)) (fun _ => M.stuck)))
def f89 (X : XT) (L : LoopI) (x : (SL) × (Int) × (Int) × Unit) : M Value :=
 f89c1 X L x

theorem e89 (X : XT) (L : LoopI) (x : (SL) × (Int) × (Int) × Unit) : evBody CC { call := X, loop := L } 89 (shsInj [(.cell .slice), (.cell (.int .i64)), (.cell (.int .i64))] x) = f89 X L x := by kernel_rfl

/-- slices.Clone[[]uint64,uint64] -/
def f90 (X : XT) (L : LoopI) (x : (SL) × Unit) : M Value :=
 M.ite x.1.1.isNone
 (M.pure (.slice none 0 0))
 (M.new (.cells (Row.ofList []) 126 false (0, 0) false) fun b0_ =>
 M.append 126 1 8 (some (Addr.mk b0_ 0 none)) 0 0 (.slice x.1.1 x.1.2.1 x.1.2.2) fun a1_ n2_ c3_ =>
 M.pure (.slice a1_ n2_ c3_))

theorem e90 (X : XT) (L : LoopI) (x : (SL) × Unit) : evBody CC { call := X, loop := L } 90 (shsInj [(.cell .slice)] x) = f90 X L x := by kernel_rfl

/-- hayrick/logs.rising -/
def f91 (X : XT) (L : LoopI) (x : (SL) × Unit) : M Value :=
 M.callS (.one (.cell .slice)) (X (.call 122 [(.slice x.1.1 x.1.2.1 x.1.2.2)])) fun (r0_ : SL) =>
 M.callS (.tuple []) (X (.call 123 [(.slice r0_.1 r0_.2.1 r0_.2.2)])) fun (r1_ : Unit) =>
 M.pure (.slice r0_.1 r0_.2.1 r0_.2.2)

theorem e91 (X : XT) (L : LoopI) (x : (SL) × Unit) : evBody CC { call := X, loop := L } 91 (shsInj [(.cell .slice)] x) = f91 X L x := by kernel_rfl

/-- hayrick/hayrickref17.slots -/
def f92c0 (X : XT) (L : LoopI) (x : (SL) × (Int) × (Int) × Unit) (b0_ : Nat) (s1_ : (Int) × Unit) (a6_ : Addr) : M (((Int) × Unit) ⊕ ((Unit) ⊕ (((SL) × (Bool) × Unit) ⊕ (Unit)))) :=
 M.load (.cell (.int .i64)) 1 (a6_.add ((Int.toNat s1_.1) * 1)) fun (x7_ : Int) =>
 M.guard (inB x7_ (Int.toNat x.2.1))
 (M.load (.cell .bool) 1 ((Addr.mk b0_ 0 none).add ((Int.toNat x7_) * 1)) fun (x8_ : Bool) =>
 M.ite x8_
 (M.pure (.inr (.inr (.inl ((none, 0, 0), false, ())))))
 (M.guard (inB s1_.1 x.1.2.1)
 (M.deref x.1.1 fun a9_ =>
 M.load (.cell (.int .i64)) 1 (a9_.add ((Int.toNat s1_.1) * 1)) fun (x10_ : Int) =>
 M.guard (inB x10_ (Int.toNat x.2.1))
 (M.store ((Addr.mk b0_ 0 none).add ((Int.toNat x10_) * 1)) [(.bool true)]
 (M.pure (.inl ((addW .i64 s1_.1 1), ())))))))
def f92c1 (X : XT) (L : LoopI) (x : (SL) × (Int) × (Int) × Unit) (s1_ : (Int) × Unit) (go5_ : ((Bool) × Unit) → M (((Int) × Unit) ⊕ ((Unit) ⊕ (((SL) × (Bool) × Unit) ⊕ (Unit))))) : M (((Int) × Unit) ⊕ ((Unit) ⊕ (((SL) × (Bool) × Unit) ⊕ (Unit)))) :=
 M.guard (inB s1_.1 x.1.2.1)
 (M.deref x.1.1 fun a12_ =>
 M.load (.cell (.int .i64)) 1 (a12_.add ((Int.toNat s1_.1) * 1)) fun (x13_ : Int) =>
 M.ite (ltB x13_ 0)
 (go5_ (true, ()))
 (M.guard (inB s1_.1 x.1.2.1)
 (M.deref x.1.1 fun a15_ =>
 M.load (.cell (.int .i64)) 1 (a15_.add ((Int.toNat s1_.1) * 1)) fun (x16_ : Int) =>
 M.ite (leB x.2.1 x16_)
 (go5_ (true, ()))
 (M.guard (inB s1_.1 x.1.2.1)
 (M.deref x.1.1 fun a18_ =>
 M.load (.cell (.int .i64)) 1 (a18_.add ((Int.toNat s1_.1) * 1)) fun (x19_ : Int) =>
 go5_ ((eqB x19_ x.2.2.1), ()))))))
def f92c2 (X : XT) (L : LoopI) (x : (SL) × (Int) × (Int) × Unit) (b0_ : Nat) : M (Value) :=
 M.bind (L (σ := (Int) × Unit) (ρ := (Unit) ⊕ (((SL) × (Bool) × Unit) ⊕ (Unit))) (fun s1_ =>
 M.ite (ltB s1_.1 ((x.1.2.1 : Nat) : Int))
 (M.join (fun (j4_ : (Bool) × Unit) =>
 M.ite j4_.1
 (M.pure (.inr (.inr (.inl ((none, 0, 0), false, ())))))
 (M.guard (inB s1_.1 x.1.2.1)
 (M.deref x.1.1 fun a6_ =>
 f92c0 X L x b0_ s1_ a6_))) fun go5_ =>
 f92c1 X L x s1_ go5_)
 (M.pure (.inr (.inl (()))))) (0, ())) <| M.sum (fun (j21_ : Unit) =>
 M.pure (.tuple ⟨[(.slice (some (Addr.mk b0_ 0 none)) (Int.toNat x.2.1) (Int.toNat x.2.1)), (.bool true)]⟩)) (M.sum (fun (j22_ : (SL) × (Bool) × Unit) =>
 M.pure (.tuple ⟨[(.slice j22_.1.1 j22_.1.2.1 j22_.1.2.2), (.bool j22_.2.1)]⟩)) (fun _ => M.stuck))
def f92 (X : XT) (L : LoopI) (x : (SL) × (Int) × (Int) × Unit) : M Value :=
 M.guard (decide (0 ≤ x.2.1) && decide (x.2.1 ≤ x.2.1) && decide ((1 : Int) * x.2.1 ≤ 2 ^ 48))
 (M.new (.cells (Row.rep [(.bool false)] (Int.toNat x.2.1)) 4 false (0, 0) false) fun b0_ =>
 f92c2 X L x b0_)

theorem e92 (X : XT) (L : LoopI) (x : (SL) × (Int) × (Int) × Unit) : evBody CC { call := X, loop := L } 92 (shsInj [(.cell .slice), (.cell (.int .i64)), (.cell (.int .i64))] x) = f92 X L x := by kernel_rfl

/-- slices.IndexFunc[[]uint32,uint32] -/
def f93c0 (X : XT) (L : LoopI) (x : (SL) × (Value) × Unit) (v0_ : Int) : M (Value) :=
 M.bind (L (σ := (Int) × Unit) (ρ := (Unit) ⊕ (((Int) × Unit) ⊕ (Unit))) (fun s1_ =>
 M.ite (ltB s1_.1 v0_)
 (M.guard (inB s1_.1 x.1.2.1)
 (M.deref x.1.1 fun a3_ =>
 M.load (.cell (.int .u32)) 1 (a3_.add ((Int.toNat s1_.1) * 1)) fun (x4_ : Int) =>
 callV CC ⟨X, L⟩ x.2.1 [(.int .u32 x4_)] fun w6_ => M.need (RSh.prj (.one (.cell .bool)) w6_) fun (r5_ : Bool) =>
 M.ite r5_
 (M.pure (.inr (.inr (.inl (s1_.1, ())))))
 (M.pure (.inl ((addW .i64 s1_.1 1), ())))))
 (M.pure (.inr (.inl (()))))) (0, ())) <| M.sum (fun (j8_ : Unit) =>
 M.pure (.int .i64 (-1))) (M.sum (fun (j9_ : (Int) × Unit) =>
 M.pure (.int .i64 j9_.1)) (fun _ => M.stuck))
def f93 (X : XT) (L : LoopI) (x : (SL) × (Value) × Unit) : M Value :=
 f93c0 X L x ((x.1.2.1 : Nat) : Int)

theorem e93 (X : XT) (L : LoopI) (x : (SL) × (Value) × Unit) : evBody CC { call := X, loop := L } 93 (shsInj [(.cell .slice), (.cell .val)] x) = f93 X L x := by kernel_rfl

/-- (*hayrick/store.Store).right -/
def f94 (X : XT) (L : LoopI) (x : (PA) × (Int) × Unit) : M Value :=
 M.join (fun (j0_ : (Bool) × Unit) =>
 M.ite j0_.1
 (M.pure (.int .i64 2))
 (M.join (fun (j2_ : (Bool) × Unit) =>
 M.ite j2_.1
 (M.pure (.int .i64 1))
 (M.pure (.int .i64 0))) fun go3_ =>
 M.ite (ltB x.2.1 1)
 (go3_ (true, ()))
 (go3_ ((ltB 64 x.2.1), ())))) fun go1_ =>
 M.eqPtr x.1 none fun (q6_ : Bool) =>
 M.ite q6_
 (go1_ (true, ()))
 (M.deref x.1 fun a7_ =>
 M.load (.cell .ptr) 1 (a7_.add 0) fun (x8_ : PA) =>
 M.eqPtr x8_ none fun (q9_ : Bool) =>
 go1_ (q9_, ()))

theorem e94 (X : XT) (L : LoopI) (x : (PA) × (Int) × Unit) : evBody CC { call := X, loop := L } 94 (shsInj [(.cell .ptr), (.cell (.int .i64))] x) = f94 X L x := by kernel_rfl

/-- (*hayrick/logs.Log).Append -/
def f95c0 (X : XT) (L : LoopI) (b0_ : Nat) (b1_ : Nat) (b2_ : Nat) (b3_ : Nat) (x4_ : PA) : M (Value) :=
 M.callS (.one (.cell (.int .i64))) (X (.call 124 [(.pointer x4_), (.func (.func 125) ⟨[]⟩ ⟨[(.pointer (some (Addr.mk b1_ 0 none))), (.pointer (some (Addr.mk b2_ 0 none))), (.pointer (some (Addr.mk b0_ 0 none))), (.pointer (some (Addr.mk b3_ 0 none)))]⟩)])) fun (r5_ : Int) =>
 M.ite (!(eqB r5_ 0))
 (M.store (Addr.mk b3_ 0 none) [(.int .u32 0)]
 (M.load (.cell (.int .u32)) 1 (Addr.mk b3_ 0 none) fun (x7_ : Int) =>
 M.pure (.tuple ⟨[(.int .u32 x7_), (.int .i64 r5_)]⟩)))
 (M.load (.cell (.int .u32)) 1 (Addr.mk b3_ 0 none) fun (x8_ : Int) =>
 M.store (Addr.mk b3_ 0 none) [(.int .u32 x8_)]
 (M.load (.cell (.int .u32)) 1 (Addr.mk b3_ 0 none) fun (x9_ : Int) =>
 M.pure (.tuple ⟨[(.int .u32 x9_), (.int .i64 0)]⟩)))
def f95c1 (X : XT) (L : LoopI) (x : (PA) × (Int × Bool × Int × Int × Unit) × (SL) × Unit) : M (Value) :=
 M.new (.cells (Row.ofList [(.pointer x.1)]) 81 false (0, 0) false) fun b0_ =>
 M.new (.cells (Row.ofList [(.int .i64 x.2.1.1), (.bool x.2.1.2.1), (.int .i64 x.2.1.2.2.1), (.int .i64 x.2.1.2.2.2.1)]) 143 false (0, 0) false) fun b1_ =>
 M.new (.cells (Row.ofList [(.slice x.2.2.1.1 x.2.2.1.2.1 x.2.2.1.2.2)]) 61 false (0, 0) false) fun b2_ =>
 M.new (.cells (Row.ofList [(.int .u32 0)]) 73 false (0, 0) false) fun b3_ =>
 M.load (.cell .ptr) 1 (Addr.mk b0_ 0 none) fun (x4_ : PA) =>
 f95c0 X L b0_ b1_ b2_ b3_ x4_
def f95 (X : XT) (L : LoopI) (x : (PA) × (Int × Bool × Int × Int × Unit) × (SL) × Unit) : M Value :=
 f95c1 X L x

theorem e95 (X : XT) (L : LoopI) (x : (PA) × (Int × Bool × Int × Int × Unit) × (SL) × Unit) : evBody CC { call := X, loop := L } 95 (shsInj [(.cell .ptr), (.agg [(.int .i64), .bool, (.int .i64), (.int .i64)]), (.cell .slice)] x) = f95 X L x := by kernel_rfl

/-- slices.Clone[[]uint32,uint32] -/
def f96 (X : XT) (L : LoopI) (x : (SL) × Unit) : M Value :=
 M.ite x.1.1.isNone
 (M.pure (.slice none 0 0))
 (M.new (.cells (Row.ofList []) 73 false (0, 0) false) fun b0_ =>
 M.append 73 1 4 (some (Addr.mk b0_ 0 none)) 0 0 (.slice x.1.1 x.1.2.1 x.1.2.2) fun a1_ n2_ c3_ =>
 M.pure (.slice a1_ n2_ c3_))

theorem e96 (X : XT) (L : LoopI) (x : (SL) × Unit) : evBody CC { call := X, loop := L } 96 (shsInj [(.cell .slice)] x) = f96 X L x := by kernel_rfl

/-- hayrick/hayrickref14.May -/
def f97c0 (X : XT) (L : LoopI) (b0_ : Nat) (v4_ : Bool) : M (Value) :=
 M.ite v4_
 (M.join (fun (j5_ : (Bool) × Unit) =>
 M.pure (.bool j5_.1)) fun go6_ =>
 M.load (.cell (.int .i64)) 1 ((Addr.mk b0_ 0 none).add 3) fun (x7_ : Int) =>
 M.ite (leB 0 x7_)
 (M.load (.cell (.int .i64)) 1 ((Addr.mk b0_ 0 none).add 3) fun (x9_ : Int) =>
 go6_ ((leB x9_ 33), ()))
 (go6_ (false, ())))
 (M.join (fun (j11_ : (Bool) × Unit) =>
 M.pure (.bool j11_.1)) fun go12_ =>
 M.load (.cell (.int .i64)) 1 ((Addr.mk b0_ 0 none).add 0) fun (x13_ : Int) =>
 M.ite (leB 2 x13_)
 (M.load (.cell (.int .i64)) 1 ((Addr.mk b0_ 0 none).add 0) fun (x15_ : Int) =>
 M.ite (leB x15_ 4)
 (M.load (.cell (.int .i64)) 1 ((Addr.mk b0_ 0 none).add 3) fun (x17_ : Int) =>
 go12_ ((eqB x17_ 0), ()))
 (go12_ (false, ())))
 (go12_ (false, ())))
def f97c1 (X : XT) (L : LoopI) (x : (Int × Bool × Int × Int × Unit) × Unit) : M (Value) :=
 M.new (.cells (Row.ofList [(.int .i64 x.1.1), (.bool x.1.2.1), (.int .i64 x.1.2.2.1), (.int .i64 x.1.2.2.2.1)]) 143 false (0, 0) false) fun b0_ =>
 M.join (fun (j1_ : (Bool) × Unit) =>
 M.ite j1_.1
 (M.pure (.bool false))
 (M.load (.cell (.int .i64)) 1 ((Addr.mk b0_ 0 none).add 0) fun (x3_ : Int) =>
 f97c0 X L b0_ (eqB x3_ 1))) fun go2_ =>
 M.load (.cell (.int .i64)) 1 ((Addr.mk b0_ 0 none).add 2) fun (x19_ : Int) =>
 M.ite (ltB x19_ 1)
 (go2_ (true, ()))
 (M.load (.cell (.int .i64)) 1 ((Addr.mk b0_ 0 none).add 2) fun (x21_ : Int) =>
 go2_ ((ltB 64 x21_), ()))
def f97 (X : XT) (L : LoopI) (x : (Int × Bool × Int × Int × Unit) × Unit) : M Value :=
 f97c1 X L x

theorem e97 (X : XT) (L : LoopI) (x : (Int × Bool × Int × Int × Unit) × Unit) : evBody CC { call := X, loop := L } 97 (shsInj [(.agg [(.int .i64), .bool, (.int .i64), (.int .i64)])] x) = f97 X L x := by kernel_rfl

/-- hayrick/hayrickref14.Address -/
def f98c0 (X : XT) (L : LoopI) (x : (Int) × (Int) × (Int) × Unit) : M (Value) :=
 M.join (fun (j0_ : (Bool) × Unit) =>
 M.ite j0_.1
 (M.pure (.tuple ⟨[(.int .u32 0), (.int .i64 1)]⟩))
 (M.callS (.one (.cell (.int .i64))) (X (.call 132 [(.int .i64 x.1)])) fun (r4_ : Int) =>
 M.pure (.tuple ⟨[(.int .u32 (wrapW .u32 (addW .i64 (addW .i64 (addW .i64 (mulW .i64 (mulW .i64 x.2.1 4) x.1) r4_) x.2.2.1) 1))), (.int .i64 0)]⟩))) fun go1_ =>
 M.ite (ltB x.1 1)
 (go1_ (true, ()))
 (M.ite (ltB 254 x.1)
 (go1_ (true, ()))
 (M.ite (ltB x.2.1 0)
 (go1_ (true, ()))
 (M.ite (ltB 127 x.2.1)
 (go1_ (true, ()))
 (M.ite (ltB x.2.2.1 0)
 (go1_ (true, ()))
 (M.callS (.one (.cell (.int .i64))) (X (.call 100 [(.int .i64 x.1)])) fun (r14_ : Int) =>
 go1_ ((leB r14_ x.2.2.1), ()))))))
def f98 (X : XT) (L : LoopI) (x : (Int) × (Int) × (Int) × Unit) : M Value :=
 f98c0 X L x

theorem e98 (X : XT) (L : LoopI) (x : (Int) × (Int) × (Int) × Unit) : evBody CC { call := X, loop := L } 98 (shsInj [(.cell (.int .i64)), (.cell (.int .i64)), (.cell (.int .i64))] x) = f98 X L x := by kernel_rfl

/-- hayrick/hayrickref17.own -/
def f99 (X : XT) (L : LoopI) (x : (SL) × Unit) : M Value :=
 M.append 5 1 1 none 0 0 (.slice x.1.1 x.1.2.1 x.1.2.2) fun a0_ n1_ c2_ =>
 M.pure (.slice a0_ n1_ c2_)

theorem e99 (X : XT) (L : LoopI) (x : (SL) × Unit) : evBody CC { call := X, loop := L } 99 (shsInj [(.cell .slice)] x) = f99 X L x := by kernel_rfl

/-- hayrick/hayrickref14.Cap -/
def f100 (X : XT) (L : LoopI) (x : (Int) × Unit) : M Value :=
 M.join (fun (j0_ : (Bool) × Unit) =>
 M.ite j0_.1
 (M.pure (.int .i64 0))
 (M.callS (.one (.cell (.int .i64))) (X (.call 132 [(.int .i64 x.1)])) fun (r3_ : Int) =>
 M.pure (.int .i64 (subW .i64 (mulW .i64 4 x.1) r3_)))) fun go1_ =>
 M.ite (ltB x.1 1)
 (go1_ (true, ()))
 (go1_ ((ltB 254 x.1), ()))

theorem e100 (X : XT) (L : LoopI) (x : (Int) × Unit) : evBody CC { call := X, loop := L } 100 (shsInj [(.cell (.int .i64))] x) = f100 X L x := by kernel_rfl

/-- hayrick/hayrickref11.Put -/
def f103c0 (X : XT) (L : LoopI) (b0_ : Nat) (b4_ : Nat) : M (Value) :=
 M.bind (L (σ := (Int) × Unit) (ρ := (Unit) ⊕ (Unit)) (fun s17_ =>
 M.ite (ltB s17_.1 6)
 (M.guard (inB s17_.1 6)
 (M.load (.cell (.int .u32)) 1 (((Addr.mk b0_ 0 none).add 4).add ((Int.toNat s17_.1) * 1)) fun (x21_ : Int) =>
 M.callS (.tuple []) (X (.call 135 [(.slice (some (Addr.mk b4_ 0 none)) (Int.toNat 112) (Int.toNat 112)), (.int .i64 (addW .i64 6 (mulW .i64 4 s17_.1))), (.int .i64 4), (.int .u64 (wrapW .u64 x21_))])) fun (r23_ : Unit) =>
 M.pure (.inl ((addW .i64 s17_.1 1), ()))))
 (M.pure (.inr (.inl (()))))) (0, ())) <| M.sum (fun (j25_ : Unit) =>
 M.load (.cell (.int .u32)) 1 ((Addr.mk b0_ 0 none).add 10) fun (x26_ : Int) =>
 M.callS (.tuple []) (X (.call 135 [(.slice (some (Addr.mk b4_ 0 none)) (Int.toNat 112) (Int.toNat 112)), (.int .i64 30), (.int .i64 4), (.int .u64 (wrapW .u64 x26_))])) fun (r28_ : Unit) =>
 M.pure (.tuple ⟨[(.slice (some (Addr.mk b4_ 0 none)) (Int.toNat 112) (Int.toNat 112)), (.int .i64 0)]⟩)) (fun _ => M.stuck)
def f103c1 (X : XT) (L : LoopI) (b0_ : Nat) (b4_ : Nat) : M (Value) :=
 M.load (.cell (.int .i64)) 1 ((Addr.mk b0_ 0 none).add 3) fun (x11_ : Int) =>
 M.callS (.tuple []) (X (.call 135 [(.slice (some (Addr.mk b4_ 0 none)) (Int.toNat 112) (Int.toNat 112)), (.int .i64 3), (.int .i64 1), (.int .u64 (wrapW .u64 x11_))])) fun (r13_ : Unit) =>
 M.load (.cell (.int .i64)) 1 ((Addr.mk b0_ 0 none).add 2) fun (x14_ : Int) =>
 M.callS (.tuple []) (X (.call 135 [(.slice (some (Addr.mk b4_ 0 none)) (Int.toNat 112) (Int.toNat 112)), (.int .i64 4), (.int .i64 2), (.int .u64 (wrapW .u64 x14_))])) fun (r16_ : Unit) =>
 f103c0 X L b0_ b4_
def f103c2 (X : XT) (L : LoopI) (b0_ : Nat) (b4_ : Nat) : M (Value) :=
 M.load (.cell (.int .i64)) 1 ((Addr.mk b0_ 0 none).add 0) fun (x5_ : Int) =>
 M.callS (.tuple []) (X (.call 135 [(.slice (some (Addr.mk b4_ 0 none)) (Int.toNat 112) (Int.toNat 112)), (.int .i64 0), (.int .i64 2), (.int .u64 (wrapW .u64 x5_))])) fun (r7_ : Unit) =>
 M.load (.cell (.int .i64)) 1 ((Addr.mk b0_ 0 none).add 1) fun (x8_ : Int) =>
 M.callS (.tuple []) (X (.call 135 [(.slice (some (Addr.mk b4_ 0 none)) (Int.toNat 112) (Int.toNat 112)), (.int .i64 2), (.int .i64 1), (.int .u64 (wrapW .u64 x8_))])) fun (r10_ : Unit) =>
 f103c1 X L b0_ b4_
def f103c3 (X : XT) (L : LoopI) (b0_ : Nat) (x1_ : Int × Int × Int × Int × Int × Int × Int × Int × Int × Int × Int × Unit) : M (Value) :=
 M.callS (.one (.cell .bool)) (X (.call 49 [(.agg ⟨[(.int .i64 x1_.1), (.int .i64 x1_.2.1), (.int .i64 x1_.2.2.1), (.int .i64 x1_.2.2.2.1), (.int .u32 x1_.2.2.2.2.1), (.int .u32 x1_.2.2.2.2.2.1), (.int .u32 x1_.2.2.2.2.2.2.1), (.int .u32 x1_.2.2.2.2.2.2.2.1), (.int .u32 x1_.2.2.2.2.2.2.2.2.1), (.int .u32 x1_.2.2.2.2.2.2.2.2.2.1), (.int .u32 x1_.2.2.2.2.2.2.2.2.2.2.1)]⟩)])) fun (r2_ : Bool) =>
 M.ite (!r2_)
 (M.pure (.tuple ⟨[(.slice none 0 0), (.int .i64 1)]⟩))
 (M.guard (decide (0 ≤ 112) && decide (112 ≤ 112) && decide ((1 : Int) * 112 ≤ 2 ^ 48))
 (M.new (.cells (Row.rep [(.int .u8 0)] (Int.toNat 112)) 5 false (0, 0) false) fun b4_ =>
 f103c2 X L b0_ b4_))
def f103c4 (X : XT) (L : LoopI) (x : (Int × Int × Int × Int × Int × Int × Int × Int × Int × Int × Int × Unit) × Unit) : M (Value) :=
 M.new (.cells (Row.ofList [(.int .i64 x.1.1), (.int .i64 x.1.2.1), (.int .i64 x.1.2.2.1), (.int .i64 x.1.2.2.2.1), (.int .u32 x.1.2.2.2.2.1), (.int .u32 x.1.2.2.2.2.2.1), (.int .u32 x.1.2.2.2.2.2.2.1), (.int .u32 x.1.2.2.2.2.2.2.2.1), (.int .u32 x.1.2.2.2.2.2.2.2.2.1), (.int .u32 x.1.2.2.2.2.2.2.2.2.2.1), (.int .u32 x.1.2.2.2.2.2.2.2.2.2.2.1)]) 76 false (0, 0) false) fun b0_ =>
 M.load (.agg [(.int .i64), (.int .i64), (.int .i64), (.int .i64), (.int .u32), (.int .u32), (.int .u32), (.int .u32), (.int .u32), (.int .u32), (.int .u32)]) 11 (Addr.mk b0_ 0 none) fun (x1_ : Int × Int × Int × Int × Int × Int × Int × Int × Int × Int × Int × Unit) =>
 f103c3 X L b0_ x1_
def f103 (X : XT) (L : LoopI) (x : (Int × Int × Int × Int × Int × Int × Int × Int × Int × Int × Int × Unit) × Unit) : M Value :=
 f103c4 X L x

theorem e103 (X : XT) (L : LoopI) (x : (Int × Int × Int × Int × Int × Int × Int × Int × Int × Int × Int × Unit) × Unit) : evBody CC { call := X, loop := L } 103 (shsInj [(.agg [(.int .i64), (.int .i64), (.int .i64), (.int .i64), (.int .u32), (.int .u32), (.int .u32), (.int .u32), (.int .u32), (.int .u32), (.int .u32)])] x) = f103 X L x := by kernel_rfl

/-- hayrick/entry.may -/
def f104 (X : XT) (L : LoopI) (x : (Int) × Unit) : M Value :=
 M.join (fun (j0_ : (Bool) × Unit) =>
 M.pure (.bool j0_.1)) fun go1_ =>
 M.ite (leB 1 x.1)
 (go1_ ((leB x.1 64), ()))
 (go1_ (false, ()))

theorem e104 (X : XT) (L : LoopI) (x : (Int) × Unit) : evBody CC { call := X, loop := L } 104 (shsInj [(.cell (.int .i64))] x) = f104 X L x := by kernel_rfl

/-- hayrick/hayrickref10.Compare -/
def f105c0 (X : XT) (L : LoopI) (r0_ : SL) (r1_ : SL) (s2_ : (Int) × Unit) (x10_ : Int) (a11_ : Addr) : M (((Int) × Unit) ⊕ ((Unit) ⊕ (((Int) × Unit) ⊕ (Unit)))) :=
 M.load (.cell (.int .i32)) 1 (a11_.add ((Int.toNat s2_.1) * 1)) fun (x12_ : Int) =>
 M.ite (ltB x10_ x12_)
 (M.pure (.inr (.inr (.inl ((-1), ())))))
 (M.guard (inB s2_.1 r0_.2.1)
 (M.deref r0_.1 fun a14_ =>
 M.load (.cell (.int .i32)) 1 (a14_.add ((Int.toNat s2_.1) * 1)) fun (x15_ : Int) =>
 M.guard (inB s2_.1 r1_.2.1)
 (M.deref r1_.1 fun a16_ =>
 M.load (.cell (.int .i32)) 1 (a16_.add ((Int.toNat s2_.1) * 1)) fun (x17_ : Int) =>
 M.ite (ltB x17_ x15_)
 (M.pure (.inr (.inr (.inl (1, ())))))
 (M.pure (.inl ((addW .i64 s2_.1 1), ()))))))
def f105c1 (X : XT) (L : LoopI) (r0_ : SL) (r1_ : SL) (s2_ : (Int) × Unit) : M (((Int) × Unit) ⊕ ((Unit) ⊕ (((Int) × Unit) ⊕ (Unit)))) :=
 M.join (fun (j3_ : (Bool) × Unit) =>
 M.ite j3_.1
 (M.ite (eqB s2_.1 ((r0_.2.1 : Nat) : Int))
 (M.pure (.inr (.inr (.inl ((-1), ())))))
 (M.ite (eqB s2_.1 ((r1_.2.1 : Nat) : Int))
 (M.pure (.inr (.inr (.inl (1, ())))))
 (M.guard (inB s2_.1 r0_.2.1)
 (M.deref r0_.1 fun a9_ =>
 M.load (.cell (.int .i32)) 1 (a9_.add ((Int.toNat s2_.1) * 1)) fun (x10_ : Int) =>
 M.guard (inB s2_.1 r1_.2.1)
 (M.deref r1_.1 fun a11_ =>
 f105c0 X L r0_ r1_ s2_ x10_ a11_)))))
 (M.pure (.inr (.inl (()))))) fun go4_ =>
 M.ite (ltB s2_.1 ((r0_.2.1 : Nat) : Int))
 (go4_ (true, ()))
 (go4_ ((ltB s2_.1 ((r1_.2.1 : Nat) : Int)), ()))
def f105c2 (X : XT) (L : LoopI) (x : (ByteArray) × (ByteArray) × Unit) (s25_ : (Int) × Unit) (v29_ : Bool) : M (((Int) × Unit) ⊕ ((Unit) ⊕ (((Int) × Unit) ⊕ (Unit)))) :=
 M.ite v29_
 (M.pure (.inr (.inr (.inl ((-1), ())))))
 (M.ite (eqB s25_.1 ((x.2.1.size : Nat) : Int))
 (M.pure (.inr (.inr (.inl (1, ())))))
 (M.guard (inB s25_.1 x.1.size)
 (M.guard (inB s25_.1 x.2.1.size)
 (M.ite (ltB (byteAt x.1 s25_.1) (byteAt x.2.1 s25_.1))
 (M.pure (.inr (.inr (.inl ((-1), ())))))
 (M.guard (inB s25_.1 x.1.size)
 (M.guard (inB s25_.1 x.2.1.size)
 (M.ite (ltB (byteAt x.2.1 s25_.1) (byteAt x.1 s25_.1))
 (M.pure (.inr (.inr (.inl (1, ())))))
 (M.pure (.inl ((addW .i64 s25_.1 1), ()))))))))))
def f105c3 (X : XT) (L : LoopI) (x : (ByteArray) × (ByteArray) × Unit) (r0_ : SL) (r1_ : SL) : M (Value) :=
 M.bind (L (σ := (Int) × Unit) (ρ := (Unit) ⊕ (((Int) × Unit) ⊕ (Unit))) (fun s2_ =>
 f105c1 X L r0_ r1_ s2_) (0, ())) <| M.sum (fun (j24_ : Unit) =>
 M.bind (L (σ := (Int) × Unit) (ρ := (Unit) ⊕ (((Int) × Unit) ⊕ (Unit))) (fun s25_ =>
 M.join (fun (j26_ : (Bool) × Unit) =>
 M.ite j26_.1
 (f105c2 X L x s25_ (eqB s25_.1 ((x.1.size : Nat) : Int)))
 (M.pure (.inr (.inl (()))))) fun go27_ =>
 M.ite (ltB s25_.1 ((x.1.size : Nat) : Int))
 (go27_ (true, ()))
 (go27_ ((ltB s25_.1 ((x.2.1.size : Nat) : Int)), ()))) (0, ())) <| M.sum (fun (j43_ : Unit) =>
 M.pure (.int .i64 0)) (M.sum (fun (j44_ : (Int) × Unit) =>
 M.pure (.int .i64 j44_.1)) (fun _ => M.stuck))) (M.sum (fun (j45_ : (Int) × Unit) =>
 M.pure (.int .i64 j45_.1)) (fun _ => M.stuck))
def f105 (X : XT) (L : LoopI) (x : (ByteArray) × (ByteArray) × Unit) : M Value :=
 M.callS (.one (.cell .slice)) (X (.call 136 [(.string x.1)])) fun (r0_ : SL) =>
 M.callS (.one (.cell .slice)) (X (.call 136 [(.string x.2.1)])) fun (r1_ : SL) =>
 f105c3 X L x r0_ r1_

theorem e105 (X : XT) (L : LoopI) (x : (ByteArray) × (ByteArray) × Unit) : evBody CC { call := X, loop := L } 105 (shsInj [(.cell .string), (.cell .string)] x) = f105 X L x := by kernel_rfl

/-- hayrick/files.with -/
def f106c0 (X : XT) (L : LoopI) (x : (PA) × (Int) × (Value) × Unit) (b1_ : Nat) (r4_ : (SL) × (Int) × Unit) : M (Value) :=
 M.load (.agg [(.int .i64), (.int .i64), (.int .i64), (.int .i64), (.int .u32), (.int .u32), (.int .u32), (.int .u32), (.int .u32), (.int .u32), (.int .u32)]) 11 (Addr.mk b1_ 0 none) fun (x6_ : Int × Int × Int × Int × Int × Int × Int × Int × Int × Int × Int × Unit) =>
 callV CC ⟨X, L⟩ x.2.2.1 [(.agg ⟨[(.int .i64 x6_.1), (.int .i64 x6_.2.1), (.int .i64 x6_.2.2.1), (.int .i64 x6_.2.2.2.1), (.int .u32 x6_.2.2.2.2.1), (.int .u32 x6_.2.2.2.2.2.1), (.int .u32 x6_.2.2.2.2.2.2.1), (.int .u32 x6_.2.2.2.2.2.2.2.1), (.int .u32 x6_.2.2.2.2.2.2.2.2.1), (.int .u32 x6_.2.2.2.2.2.2.2.2.2.1), (.int .u32 x6_.2.2.2.2.2.2.2.2.2.2.1)]⟩), (.slice r4_.1.1 r4_.1.2.1 r4_.1.2.2)] fun w8_ => M.need (RSh.prj (.one (.cell (.int .i64))) w8_) fun (r7_ : Int) =>
 M.pure (.int .i64 r7_)
def f106c1 (X : XT) (L : LoopI) (x : (PA) × (Int) × (Value) × Unit) (b1_ : Nat) (x3_ : Int × Int × Int × Int × Int × Int × Int × Int × Int × Int × Int × Unit) : M (Value) :=
 M.callS (.tuple [(.cell .slice), (.cell (.int .i64))]) (X (.call 137 [(.pointer x.1), (.agg ⟨[(.int .i64 x3_.1), (.int .i64 x3_.2.1), (.int .i64 x3_.2.2.1), (.int .i64 x3_.2.2.2.1), (.int .u32 x3_.2.2.2.2.1), (.int .u32 x3_.2.2.2.2.2.1), (.int .u32 x3_.2.2.2.2.2.2.1), (.int .u32 x3_.2.2.2.2.2.2.2.1), (.int .u32 x3_.2.2.2.2.2.2.2.2.1), (.int .u32 x3_.2.2.2.2.2.2.2.2.2.1), (.int .u32 x3_.2.2.2.2.2.2.2.2.2.2.1)]⟩)])) fun (r4_ : (SL) × (Int) × Unit) =>
 M.ite (!(eqB r4_.2.1 0))
 (M.pure (.int .i64 r4_.2.1))
 (f106c0 X L x b1_ r4_)
def f106c2 (X : XT) (L : LoopI) (x : (PA) × (Int) × (Value) × Unit) (r0_ : (Int × Int × Int × Int × Int × Int × Int × Int × Int × Int × Int × Unit) × (Int) × Unit) (b1_ : Nat) : M (Value) :=
 M.store (Addr.mk b1_ 0 none) [(.int .i64 r0_.1.1), (.int .i64 r0_.1.2.1), (.int .i64 r0_.1.2.2.1), (.int .i64 r0_.1.2.2.2.1), (.int .u32 r0_.1.2.2.2.2.1), (.int .u32 r0_.1.2.2.2.2.2.1), (.int .u32 r0_.1.2.2.2.2.2.2.1), (.int .u32 r0_.1.2.2.2.2.2.2.2.1), (.int .u32 r0_.1.2.2.2.2.2.2.2.2.1), (.int .u32 r0_.1.2.2.2.2.2.2.2.2.2.1), (.int .u32 r0_.1.2.2.2.2.2.2.2.2.2.2.1)]
 (M.ite (!(eqB r0_.2.1 0))
 (M.pure (.int .i64 r0_.2.1))
 (M.load (.agg [(.int .i64), (.int .i64), (.int .i64), (.int .i64), (.int .u32), (.int .u32), (.int .u32), (.int .u32), (.int .u32), (.int .u32), (.int .u32)]) 11 (Addr.mk b1_ 0 none) fun (x3_ : Int × Int × Int × Int × Int × Int × Int × Int × Int × Int × Int × Unit) =>
 f106c1 X L x b1_ x3_))
def f106c3 (X : XT) (L : LoopI) (x : (PA) × (Int) × (Value) × Unit) : M (Value) :=
 M.callS (.tuple [(.agg [(.int .i64), (.int .i64), (.int .i64), (.int .i64), (.int .u32), (.int .u32), (.int .u32), (.int .u32), (.int .u32), (.int .u32), (.int .u32)]), (.cell (.int .i64))]) (X (.call 82 [(.pointer x.1), (.int .i64 x.2.1)])) fun (r0_ : (Int × Int × Int × Int × Int × Int × Int × Int × Int × Int × Int × Unit) × (Int) × Unit) =>
 M.new (.cells (Row.ofList [(.int .i64 0), (.int .i64 0), (.int .i64 0), (.int .i64 0), (.int .u32 0), (.int .u32 0), (.int .u32 0), (.int .u32 0), (.int .u32 0), (.int .u32 0), (.int .u32 0)]) 76 false (0, 0) false) fun b1_ =>
 f106c2 X L x r0_ b1_
def f106 (X : XT) (L : LoopI) (x : (PA) × (Int) × (Value) × Unit) : M Value :=
 f106c3 X L x

theorem e106 (X : XT) (L : LoopI) (x : (PA) × (Int) × (Value) × Unit) : evBody CC { call := X, loop := L } 106 (shsInj [(.cell .ptr), (.cell (.int .i64)), (.cell .val)] x) = f106 X L x := by kernel_rfl

/-- hayrick/files.Read$1 -/
def f107c0 (X : XT) (L : LoopI) (x : (Int × Int × Int × Int × Int × Int × Int × Int × Int × Int × Int × Unit) × (SL) × (PA) × (PA) × (PA) × (PA) × Unit) (s23_ : (Int) × Unit) (b27_ : Nat) (r33_ : (SL) × (Int) × Unit) (x37_ : SL) (x38_ : Int) (x39_ : Int) : M (((Int) × Unit) ⊕ ((Unit) ⊕ (((Int) × Unit) ⊕ (Unit)))) :=
 M.load (.cell (.int .i64)) 1 ((Addr.mk b27_ 0 none).add 2) fun (x40_ : Int) =>
 M.guard (upB x40_ r33_.1.2.2)
 (let v41_ : Nat := (Int.toNat x40_)
 M.guard (upB x39_ v41_)
 (let v42_ : Nat := (Int.toNat x39_)
 M.guard (upB x38_ v42_)
 (let v43_ : Nat := (Int.toNat x38_)
 M.append 5 1 1 x37_.1 x37_.2.1 x37_.2.2 (.slice (r33_.1.1.map (·.add (v43_ * 1))) (v42_ - v43_) (v41_ - v43_)) fun a44_ n45_ c46_ =>
 M.deref x.2.2.2.2.2.1 fun a47_ =>
 M.store a47_ [(.slice a44_ n45_ c46_)]
 (M.pure (.inl ((addW .i64 s23_.1 1), ()))))))
def f107c1 (X : XT) (L : LoopI) (x : (Int × Int × Int × Int × Int × Int × Int × Int × Int × Int × Int × Unit) × (SL) × (PA) × (PA) × (PA) × (PA) × Unit) (s23_ : (Int) × Unit) (b27_ : Nat) (x29_ : PA) (x32_ : Int) : M (((Int) × Unit) ⊕ ((Unit) ⊕ (((Int) × Unit) ⊕ (Unit)))) :=
 M.callS (.tuple [(.cell .slice), (.cell (.int .i64))]) (X (.call 109 [(.pointer x29_), (.int .u32 x32_)])) fun (r33_ : (SL) × (Int) × Unit) =>
 M.ite (!(eqB r33_.2.1 0))
 (M.deref x.2.2.2.2.2.1 fun a35_ =>
 M.store a35_ [(.slice none 0 0)]
 (M.pure (.inr (.inr (.inl (r33_.2.1, ()))))))
 (M.deref x.2.2.2.2.2.1 fun a36_ =>
 M.load (.cell .slice) 1 a36_ fun (x37_ : SL) =>
 M.load (.cell (.int .i64)) 1 ((Addr.mk b27_ 0 none).add 1) fun (x38_ : Int) =>
 M.load (.cell (.int .i64)) 1 ((Addr.mk b27_ 0 none).add 2) fun (x39_ : Int) =>
 f107c0 X L x s23_ b27_ r33_ x37_ x38_ x39_)
def f107c2 (X : XT) (L : LoopI) (x : (Int × Int × Int × Int × Int × Int × Int × Int × Int × Int × Int × Unit) × (SL) × (PA) × (PA) × (PA) × (PA) × Unit) (s23_ : (Int) × Unit) (x26_ : Int × Int × Int × Int × Unit) : M (((Int) × Unit) ⊕ ((Unit) ⊕ (((Int) × Unit) ⊕ (Unit)))) :=
 M.new (.cells (Row.ofList [(.int .i64 0), (.int .i64 0), (.int .i64 0), (.int .i64 0)]) 211 false (0, 0) false) fun b27_ =>
 M.store (Addr.mk b27_ 0 none) [(.int .i64 x26_.1), (.int .i64 x26_.2.1), (.int .i64 x26_.2.2.1), (.int .i64 x26_.2.2.2.1)]
 (M.deref x.2.2.2.2.1 fun a28_ =>
 M.load (.cell .ptr) 1 a28_ fun (x29_ : PA) =>
 M.load (.cell (.int .i64)) 1 ((Addr.mk b27_ 0 none).add 0) fun (x30_ : Int) =>
 M.guard (inB x30_ x.2.1.2.1)
 (M.deref x.2.1.1 fun a31_ =>
 M.load (.cell (.int .u32)) 1 (a31_.add ((Int.toNat x30_) * 1)) fun (x32_ : Int) =>
 f107c1 X L x s23_ b27_ x29_ x32_))
def f107c3 (X : XT) (L : LoopI) (x : (Int × Int × Int × Int × Int × Int × Int × Int × Int × Int × Int × Unit) × (SL) × (PA) × (PA) × (PA) × (PA) × Unit) (r20_ : (SL) × (Int) × Unit) (v22_ : Int) : M (Value) :=
 M.bind (L (σ := (Int) × Unit) (ρ := (Unit) ⊕ (((Int) × Unit) ⊕ (Unit))) (fun s23_ =>
 M.ite (ltB s23_.1 v22_)
 (M.guard (inB s23_.1 r20_.1.2.1)
 (M.deref r20_.1.1 fun a25_ =>
 M.load (.agg [(.int .i64), (.int .i64), (.int .i64), (.int .i64)]) 4 (a25_.add ((Int.toNat s23_.1) * 4)) fun (x26_ : Int × Int × Int × Int × Unit) =>
 f107c2 X L x s23_ x26_))
 (M.pure (.inr (.inl (()))))) (0, ())) <| M.sum (fun (j49_ : Unit) =>
 M.pure (.int .i64 0)) (M.sum (fun (j50_ : (Int) × Unit) =>
 M.pure (.int .i64 j50_.1)) (fun _ => M.stuck))
def f107c4 (X : XT) (L : LoopI) (x : (Int × Int × Int × Int × Int × Int × Int × Int × Int × Int × Int × Unit) × (SL) × (PA) × (PA) × (PA) × (PA) × Unit) (x9_ : Int) (v13_ : Int) : M (Value) :=
 M.deref x.2.2.2.1 fun a15_ =>
 M.store a15_ [(.int .i64 (if v13_ < x9_ then v13_ else x9_))]
 (M.deref x.2.2.1 fun a16_ =>
 M.load (.cell (.int .i64)) 1 a16_ fun (x17_ : Int) =>
 M.deref x.2.2.2.1 fun a18_ =>
 M.load (.cell (.int .i64)) 1 a18_ fun (x19_ : Int) =>
 M.callS (.tuple [(.cell .slice), (.cell (.int .i64))]) (X (.call 108 [(.int .i64 x17_), (.int .i64 x19_)])) fun (r20_ : (SL) × (Int) × Unit) =>
 M.ite (!(eqB r20_.2.1 0))
 (M.pure (.int .i64 r20_.2.1))
 (f107c3 X L x r20_ ((r20_.1.2.1 : Nat) : Int)))
def f107c5 (X : XT) (L : LoopI) (x : (Int × Int × Int × Int × Int × Int × Int × Int × Int × Int × Int × Unit) × (SL) × (PA) × (PA) × (PA) × (PA) × Unit) (b0_ : Nat) : M (Value) :=
 M.deref x.2.2.1 fun a3_ =>
 M.load (.cell (.int .i64)) 1 a3_ fun (x4_ : Int) =>
 M.load (.cell (.int .i64)) 1 ((Addr.mk b0_ 0 none).add 2) fun (x5_ : Int) =>
 M.deref x.2.2.1 fun a7_ =>
 M.store a7_ [(.int .i64 (if x5_ < x4_ then x5_ else x4_))]
 (M.deref x.2.2.2.1 fun a8_ =>
 M.load (.cell (.int .i64)) 1 a8_ fun (x9_ : Int) =>
 M.load (.cell (.int .i64)) 1 ((Addr.mk b0_ 0 none).add 2) fun (x10_ : Int) =>
 M.deref x.2.2.1 fun a11_ =>
 M.load (.cell (.int .i64)) 1 a11_ fun (x12_ : Int) =>
 f107c4 X L x x9_ (subW .i64 x10_ x12_))
def f107c6 (X : XT) (L : LoopI) (x : (Int × Int × Int × Int × Int × Int × Int × Int × Int × Int × Int × Unit) × (SL) × (PA) × (PA) × (PA) × (PA) × Unit) : M (Value) :=
 M.new (.cells (Row.ofList [(.int .i64 x.1.1), (.int .i64 x.1.2.1), (.int .i64 x.1.2.2.1), (.int .i64 x.1.2.2.2.1), (.int .u32 x.1.2.2.2.2.1), (.int .u32 x.1.2.2.2.2.2.1), (.int .u32 x.1.2.2.2.2.2.2.1), (.int .u32 x.1.2.2.2.2.2.2.2.1), (.int .u32 x.1.2.2.2.2.2.2.2.2.1), (.int .u32 x.1.2.2.2.2.2.2.2.2.2.1), (.int .u32 x.1.2.2.2.2.2.2.2.2.2.2.1)]) 76 false (0, 0) false) fun b0_ =>
 M.join (fun (j1_ : (Bool) × Unit) =>
 M.ite j1_.1
 (M.pure (.int .i64 1))
 (f107c5 X L x b0_)) fun go2_ =>
 M.deref x.2.2.1 fun a51_ =>
 M.load (.cell (.int .i64)) 1 a51_ fun (x52_ : Int) =>
 M.ite (ltB x52_ 0)
 (go2_ (true, ()))
 (M.deref x.2.2.2.1 fun a54_ =>
 M.load (.cell (.int .i64)) 1 a54_ fun (x55_ : Int) =>
 go2_ ((ltB x55_ 0), ()))
def f107 (X : XT) (L : LoopI) (x : (Int × Int × Int × Int × Int × Int × Int × Int × Int × Int × Int × Unit) × (SL) × (PA) × (PA) × (PA) × (PA) × Unit) : M Value :=
 f107c6 X L x

theorem e107 (X : XT) (L : LoopI) (x : (Int × Int × Int × Int × Int × Int × Int × Int × Int × Int × Int × Unit) × (SL) × (PA) × (PA) × (PA) × (PA) × Unit) : evBody CC { call := X, loop := L } 107 (shsInj [(.agg [(.int .i64), (.int .i64), (.int .i64), (.int .i64), (.int .u32), (.int .u32), (.int .u32), (.int .u32), (.int .u32), (.int .u32), (.int .u32)]), (.cell .slice), (.cell .ptr), (.cell .ptr), (.cell .ptr), (.cell .ptr)] x) = f107 X L x := by kernel_rfl

/-- hayrick/points.Cut -/
def f108c0 (X : XT) (L : LoopI) (x : (Int) × (Int) × Unit) (s4_ : (SL) × (Int) × Unit) (v7_ : Int) (v8_ : Int) : M (((SL) × (Int) × Unit) ⊕ (((SL) × Unit) ⊕ (Unit))) :=
 let v9_ : Int := subW .i64 v8_ s4_.2.1
 let v10_ : Int := (if v9_ < 112 then v9_ else 112)
 M.guard (!(decide (112 = 0)))
 (M.new (.cells (Row.ofList [(.int .i64 (IntKind.i64.wrap (((addW .i64 x.1 s4_.2.1) : Int).tdiv 112))), (.int .i64 v7_), (.int .i64 v10_), (.int .i64 s4_.2.1)]) 211 false (0, 0) false) fun b13_ =>
 M.append 211 4 32 s4_.1.1 s4_.1.2.1 s4_.1.2.2 (.slice (some (Addr.mk b13_ 0 none)) 1 1) fun a14_ n15_ c16_ =>
 M.pure (.inl ((a14_, n15_, c16_), (addW .i64 s4_.2.1 (subW .i64 v10_ v7_)), ())))
def f108c1 (X : XT) (L : LoopI) (x : (Int) × (Int) × Unit) (j2_ : (Bool) × Unit) : M (Value) :=
 M.ite j2_.1
 (M.pure (.tuple ⟨[(.slice none 0 0), (.int .i64 39)]⟩))
 (M.bind (L (σ := (SL) × (Int) × Unit) (ρ := ((SL) × Unit) ⊕ (Unit)) (fun s4_ =>
 M.ite (ltB s4_.2.1 x.2.1)
 (M.guard (!(decide (112 = 0)))
 (let v7_ : Int := ((addW .i64 x.1 s4_.2.1) : Int).tmod 112
 f108c0 X L x s4_ v7_ (addW .i64 v7_ x.2.1)))
 (M.pure (.inr (.inl (s4_.1, ()))))) ((none, 0, 0), 0, ())) <| M.sum (fun (j19_ : (SL) × Unit) =>
 M.pure (.tuple ⟨[(.slice j19_.1.1 j19_.1.2.1 j19_.1.2.2), (.int .i64 0)]⟩)) (fun _ => M.stuck))
def f108 (X : XT) (L : LoopI) (x : (Int) × (Int) × Unit) : M Value :=
 M.join (fun (j0_ : (Bool) × Unit) =>
 M.ite j0_.1
 (M.pure (.tuple ⟨[(.slice none 0 0), (.int .i64 1)]⟩))
 (M.join (fun (j2_ : (Bool) × Unit) =>
 f108c1 X L x j2_) fun go3_ =>
 M.ite (ltB 3808 x.1)
 (go3_ (true, ()))
 (go3_ ((ltB (subW .i64 3808 x.1) x.2.1), ())))) fun go1_ =>
 M.ite (ltB x.1 0)
 (go1_ (true, ()))
 (go1_ ((ltB x.2.1 0), ()))

theorem e108 (X : XT) (L : LoopI) (x : (Int) × (Int) × Unit) : evBody CC { call := X, loop := L } 108 (shsInj [(.cell (.int .i64)), (.cell (.int .i64))] x) = f108 X L x := by kernel_rfl

/-- hayrick/files.block -/
def f109c0 (X : XT) (L : LoopI) (x : (PA) × (Int) × Unit) (v0_ : Bool) : M (Value) :=
 M.ite v0_
 (M.guard (decide (0 ≤ 112) && decide (112 ≤ 112) && decide ((1 : Int) * 112 ≤ 2 ^ 48))
 (M.new (.cells (Row.rep [(.int .u8 0)] (Int.toNat 112)) 5 false (0, 0) false) fun b1_ =>
 M.pure (.tuple ⟨[(.slice (some (Addr.mk b1_ 0 none)) (Int.toNat 112) (Int.toNat 112)), (.int .i64 0)]⟩)))
 (M.callS (.one (.cell .ptr)) (X (.call 36 [(.pointer x.1)])) fun (r2_ : PA) =>
 M.callS (.tuple [(.cell .slice), (.cell (.int .i64))]) (X (.call 115 [(.pointer r2_), (.int .u32 x.2.1)])) fun (r3_ : (SL) × (Int) × Unit) =>
 M.pure (.tuple ⟨[(.slice r3_.1.1 r3_.1.2.1 r3_.1.2.2), (.int .i64 r3_.2.1)]⟩))
def f109 (X : XT) (L : LoopI) (x : (PA) × (Int) × Unit) : M Value :=
 f109c0 X L x (eqB x.2.1 0)

theorem e109 (X : XT) (L : LoopI) (x : (PA) × (Int) × Unit) : evBody CC { call := X, loop := L } 109 (shsInj [(.cell .ptr), (.cell (.int .u32))] x) = f109 X L x := by kernel_rfl

/-- slices.Chunk[[]byte,byte] -/
def f110 (X : XT) (L : LoopI) (x : (SL) × (Int) × Unit) : M Value :=
 M.new (.cells (Row.ofList [(.slice x.1.1 x.1.2.1 x.1.2.2)]) 61 false (0, 0) false) fun b0_ =>
 M.new (.cells (Row.ofList [(.int .i64 x.2.1)]) 3 false (0, 0) false) fun b1_ =>
 M.join (fun (j2_ : Unit) =>
 M.pure (.func (.func 138) ⟨[]⟩ ⟨[(.pointer (some (Addr.mk b0_ 0 none))), (.pointer (some (Addr.mk b1_ 0 none)))]⟩)) fun go3_ =>
 M.load (.cell (.int .i64)) 1 (Addr.mk b1_ 0 none) fun (x4_ : Int) =>
 M.ite (ltB x4_ 1)
 (M.throw (.iface 9 (.string st15)))
 (go3_ (()))

theorem e110 (X : XT) (L : LoopI) (x : (SL) × (Int) × Unit) : evBody CC { call := X, loop := L } 110 (shsInj [(.cell .slice), (.cell (.int .i64))] x) = f110 X L x := by kernel_rfl

/-- slices.Equal[[]byte,byte] -/
def f111c0 (X : XT) (L : LoopI) (x : (SL) × (SL) × Unit) (v3_ : Int) : M (Value) :=
 M.bind (L (σ := (Int) × Unit) (ρ := (Unit) ⊕ (((Bool) × Unit) ⊕ (Unit))) (fun s4_ =>
 M.ite (ltB s4_.1 v3_)
 (M.guard (inB s4_.1 x.1.2.1)
 (M.deref x.1.1 fun a6_ =>
 M.load (.cell (.int .u8)) 1 (a6_.add ((Int.toNat s4_.1) * 1)) fun (x7_ : Int) =>
 M.guard (inB s4_.1 x.2.1.2.1)
 (M.deref x.2.1.1 fun a8_ =>
 M.load (.cell (.int .u8)) 1 (a8_.add ((Int.toNat s4_.1) * 1)) fun (x9_ : Int) =>
 M.ite (!(eqB x7_ x9_))
 (M.pure (.inr (.inr (.inl (false, ())))))
 (M.pure (.inl ((addW .i64 s4_.1 1), ()))))))
 (M.pure (.inr (.inl (()))))) (0, ())) <| M.sum (fun (j12_ : Unit) =>
 M.pure (.bool true)) (M.sum (fun (j13_ : (Bool) × Unit) =>
 M.pure (.bool j13_.1)) (fun _ => M.stuck))
def f111 (X : XT) (L : LoopI) (x : (SL) × (SL) × Unit) : M Value :=
 M.ite (!(eqB ((x.1.2.1 : Nat) : Int) ((x.2.1.2.1 : Nat) : Int)))
 (M.pure (.bool false))
 (f111c0 X L x ((x.1.2.1 : Nat) : Int))

theorem e111 (X : XT) (L : LoopI) (x : (SL) × (SL) × Unit) : evBody CC { call := X, loop := L } 111 (shsInj [(.cell .slice), (.cell .slice)] x) = f111 X L x := by kernel_rfl

/-- slices.Compare[[]rune,rune] -/
def f112c0 (X : XT) (L : LoopI) (x : (SL) × (SL) × Unit) (s1_ : (Int) × Unit) (a3_ : Addr) : M (((Int) × Unit) ⊕ ((Unit) ⊕ (((Int) × Unit) ⊕ (Unit)))) :=
 M.load (.cell (.int .i32)) 1 (a3_.add ((Int.toNat s1_.1) * 1)) fun (x4_ : Int) =>
 M.ite (leB ((x.2.1.2.1 : Nat) : Int) s1_.1)
 (M.pure (.inr (.inr (.inl (1, ())))))
 (M.guard (inB s1_.1 x.2.1.2.1)
 (M.deref x.2.1.1 fun a7_ =>
 M.load (.cell (.int .i32)) 1 (a7_.add ((Int.toNat s1_.1) * 1)) fun (x8_ : Int) =>
 M.callS (.one (.cell (.int .i64))) (X (.call 139 [(.int .i32 x4_), (.int .i32 x8_)])) fun (r9_ : Int) =>
 M.ite (!(eqB r9_ 0))
 (M.pure (.inr (.inr (.inl (r9_, ())))))
 (M.pure (.inl ((addW .i64 s1_.1 1), ())))))
def f112 (X : XT) (L : LoopI) (x : (SL) × (SL) × Unit) : M Value :=
 M.bind (L (σ := (Int) × Unit) (ρ := (Unit) ⊕ (((Int) × Unit) ⊕ (Unit))) (fun s1_ =>
 M.ite (ltB s1_.1 ((x.1.2.1 : Nat) : Int))
 (M.guard (inB s1_.1 x.1.2.1)
 (M.deref x.1.1 fun a3_ =>
 f112c0 X L x s1_ a3_))
 (M.pure (.inr (.inl (()))))) (0, ())) <| M.sum (fun (j12_ : Unit) =>
 M.ite (ltB ((x.1.2.1 : Nat) : Int) ((x.2.1.2.1 : Nat) : Int))
 (M.pure (.int .i64 (-1)))
 (M.pure (.int .i64 0))) (M.sum (fun (j16_ : (Int) × Unit) =>
 M.pure (.int .i64 j16_.1)) (fun _ => M.stuck))

theorem e112 (X : XT) (L : LoopI) (x : (SL) × (SL) × Unit) : evBody CC { call := X, loop := L } 112 (shsInj [(.cell .slice), (.cell .slice)] x) = f112 X L x := by kernel_rfl

/-- hayrick/names.Runes -/
def f113c0 (X : XT) (L : LoopI) (x : (ByteArray) × Unit) : M (Value) :=
 M.new (.iter x.1 0) fun b0_ =>
 M.bind (L (σ := (SL) × Unit) (ρ := ((SL) × Unit) ⊕ (Unit)) (fun s1_ =>
 M.next b0_
 (M.pure (.inr (.inl (s1_.1, ())))) fun i2_ c3_ =>
 M.new (.cells (Row.ofList [(.int .i32 c3_)]) 21 false (0, 0) false) fun b4_ =>
 M.append 21 1 4 s1_.1.1 s1_.1.2.1 s1_.1.2.2 (.slice (some (Addr.mk b4_ 0 none)) 1 1) fun a5_ n6_ c7_ =>
 M.pure (.inl ((a5_, n6_, c7_), ()))) ((none, 0, 0), ())) <| M.sum (fun (j8_ : (SL) × Unit) =>
 M.pure (.slice j8_.1.1 j8_.1.2.1 j8_.1.2.2)) (fun _ => M.stuck)
def f113 (X : XT) (L : LoopI) (x : (ByteArray) × Unit) : M Value :=
 f113c0 X L x

theorem e113 (X : XT) (L : LoopI) (x : (ByteArray) × Unit) : evBody CC { call := X, loop := L } 113 (shsInj [(.cell .string)] x) = f113 X L x := by kernel_rfl

/-- strings.Compare -/
def f114 (X : XT) (L : LoopI) (x : (ByteArray) × (ByteArray) × Unit) : M Value :=
 M.callS (.one (.cell (.int .i64))) (X (.call 140 [(.string x.1), (.string x.2.1)])) fun (r0_ : Int) =>
 M.pure (.int .i64 r0_)

theorem e114 (X : XT) (L : LoopI) (x : (ByteArray) × (ByteArray) × Unit) : evBody CC { call := X, loop := L } 114 (shsInj [(.cell .string), (.cell .string)] x) = f114 X L x := by kernel_rfl

/-- (*hayrick/logs.Log).Block -/
def f115c0 (X : XT) (L : LoopI) (b0_ : Nat) (b1_ : Nat) (b2_ : Nat) : M (Value) :=
 M.load (.cell .ptr) 1 (Addr.mk b0_ 0 none) fun (x3_ : PA) =>
 M.callS (.one (.cell (.int .i64))) (X (.call 124 [(.pointer x3_), (.func (.func 141) ⟨[]⟩ ⟨[(.pointer (some (Addr.mk b0_ 0 none))), (.pointer (some (Addr.mk b1_ 0 none))), (.pointer (some (Addr.mk b2_ 0 none)))]⟩)])) fun (r4_ : Int) =>
 M.load (.cell .slice) 1 (Addr.mk b2_ 0 none) fun (x5_ : SL) =>
 M.store (Addr.mk b2_ 0 none) [(.slice x5_.1 x5_.2.1 x5_.2.2)]
 (M.load (.cell .slice) 1 (Addr.mk b2_ 0 none) fun (x6_ : SL) =>
 M.pure (.tuple ⟨[(.slice x6_.1 x6_.2.1 x6_.2.2), (.int .i64 r4_)]⟩))
def f115 (X : XT) (L : LoopI) (x : (PA) × (Int) × Unit) : M Value :=
 M.new (.cells (Row.ofList [(.pointer x.1)]) 81 false (0, 0) false) fun b0_ =>
 M.new (.cells (Row.ofList [(.int .u32 x.2.1)]) 73 false (0, 0) false) fun b1_ =>
 M.new (.cells (Row.ofList [(.slice none 0 0)]) 61 false (0, 0) false) fun b2_ =>
 f115c0 X L b0_ b1_ b2_

theorem e115 (X : XT) (L : LoopI) (x : (PA) × (Int) × Unit) : evBody CC { call := X, loop := L } 115 (shsInj [(.cell .ptr), (.cell (.int .u32))] x) = f115 X L x := by kernel_rfl

/-- hayrick/inode.Take -/
def f116c0 (X : XT) (L : LoopI) (b0_ : Nat) : M (Value) :=
 M.load (.agg [(.int .i64), (.int .i64), (.int .i64), (.int .i64), (.int .u32), (.int .u32), (.int .u32), (.int .u32), (.int .u32), (.int .u32), (.int .u32)]) 11 (Addr.mk b0_ 0 none) fun (x3_ : Int × Int × Int × Int × Int × Int × Int × Int × Int × Int × Int × Unit) =>
 M.pure (.tuple ⟨[(.agg ⟨[(.int .i64 x3_.1), (.int .i64 x3_.2.1), (.int .i64 x3_.2.2.1), (.int .i64 x3_.2.2.2.1), (.int .u32 x3_.2.2.2.2.1), (.int .u32 x3_.2.2.2.2.2.1), (.int .u32 x3_.2.2.2.2.2.2.1), (.int .u32 x3_.2.2.2.2.2.2.2.1), (.int .u32 x3_.2.2.2.2.2.2.2.2.1), (.int .u32 x3_.2.2.2.2.2.2.2.2.2.1), (.int .u32 x3_.2.2.2.2.2.2.2.2.2.2.1)]⟩), (.int .i64 4)]⟩)
def f116c1 (X : XT) (L : LoopI) (b0_ : Nat) : M (Value) :=
 M.load (.agg [(.int .i64), (.int .i64), (.int .i64), (.int .i64), (.int .u32), (.int .u32), (.int .u32), (.int .u32), (.int .u32), (.int .u32), (.int .u32)]) 11 (Addr.mk b0_ 0 none) fun (x6_ : Int × Int × Int × Int × Int × Int × Int × Int × Int × Int × Int × Unit) =>
 M.pure (.tuple ⟨[(.agg ⟨[(.int .i64 x6_.1), (.int .i64 x6_.2.1), (.int .i64 x6_.2.2.1), (.int .i64 x6_.2.2.2.1), (.int .u32 x6_.2.2.2.2.1), (.int .u32 x6_.2.2.2.2.2.1), (.int .u32 x6_.2.2.2.2.2.2.1), (.int .u32 x6_.2.2.2.2.2.2.2.1), (.int .u32 x6_.2.2.2.2.2.2.2.2.1), (.int .u32 x6_.2.2.2.2.2.2.2.2.2.1), (.int .u32 x6_.2.2.2.2.2.2.2.2.2.2.1)]⟩), (.int .i64 3)]⟩)
def f116c2 (X : XT) (L : LoopI) (b0_ : Nat) : M (Value) :=
 M.load (.agg [(.int .i64), (.int .i64), (.int .i64), (.int .i64), (.int .u32), (.int .u32), (.int .u32), (.int .u32), (.int .u32), (.int .u32), (.int .u32)]) 11 (Addr.mk b0_ 0 none) fun (x25_ : Int × Int × Int × Int × Int × Int × Int × Int × Int × Int × Int × Unit) =>
 M.pure (.tuple ⟨[(.agg ⟨[(.int .i64 x25_.1), (.int .i64 x25_.2.1), (.int .i64 x25_.2.2.1), (.int .i64 x25_.2.2.2.1), (.int .u32 x25_.2.2.2.2.1), (.int .u32 x25_.2.2.2.2.2.1), (.int .u32 x25_.2.2.2.2.2.2.1), (.int .u32 x25_.2.2.2.2.2.2.2.1), (.int .u32 x25_.2.2.2.2.2.2.2.2.1), (.int .u32 x25_.2.2.2.2.2.2.2.2.2.1), (.int .u32 x25_.2.2.2.2.2.2.2.2.2.2.1)]⟩), (.int .i64 5)]⟩)
def f116c3 (X : XT) (L : LoopI) (b0_ : Nat) : M (Value) :=
 M.load (.agg [(.int .i64), (.int .i64), (.int .i64), (.int .i64), (.int .u32), (.int .u32), (.int .u32), (.int .u32), (.int .u32), (.int .u32), (.int .u32)]) 11 (Addr.mk b0_ 0 none) fun (x27_ : Int × Int × Int × Int × Int × Int × Int × Int × Int × Int × Int × Unit) =>
 M.pure (.tuple ⟨[(.agg ⟨[(.int .i64 x27_.1), (.int .i64 x27_.2.1), (.int .i64 x27_.2.2.1), (.int .i64 x27_.2.2.2.1), (.int .u32 x27_.2.2.2.2.1), (.int .u32 x27_.2.2.2.2.2.1), (.int .u32 x27_.2.2.2.2.2.2.1), (.int .u32 x27_.2.2.2.2.2.2.2.1), (.int .u32 x27_.2.2.2.2.2.2.2.2.1), (.int .u32 x27_.2.2.2.2.2.2.2.2.2.1), (.int .u32 x27_.2.2.2.2.2.2.2.2.2.2.1)]⟩), (.int .i64 0)]⟩)
def f116c4 (X : XT) (L : LoopI) (b0_ : Nat) (b12_ : Nat) : M (Value) :=
 M.load (.agg [(.int .i64), (.int .i64), (.int .i64), (.int .i64), (.int .u32), (.int .u32), (.int .u32), (.int .u32), (.int .u32), (.int .u32), (.int .u32)]) 11 (Addr.mk b12_ 0 none) fun (x26_ : Int × Int × Int × Int × Int × Int × Int × Int × Int × Int × Int × Unit) =>
 M.store (Addr.mk b0_ 0 none) [(.int .i64 x26_.1), (.int .i64 x26_.2.1), (.int .i64 x26_.2.2.1), (.int .i64 x26_.2.2.2.1), (.int .u32 x26_.2.2.2.2.1), (.int .u32 x26_.2.2.2.2.2.1), (.int .u32 x26_.2.2.2.2.2.2.1), (.int .u32 x26_.2.2.2.2.2.2.2.1), (.int .u32 x26_.2.2.2.2.2.2.2.2.1), (.int .u32 x26_.2.2.2.2.2.2.2.2.2.1), (.int .u32 x26_.2.2.2.2.2.2.2.2.2.2.1)]
 (f116c3 X L b0_)
def f116c5 (X : XT) (L : LoopI) (x : (SL) × Unit) (b0_ : Nat) (b12_ : Nat) (r22_ : (SL) × (Int) × Unit) : M (Value) :=
 M.join (fun (j23_ : (Bool) × Unit) =>
 M.ite j23_.1
 (M.store (Addr.mk b0_ 0 none) [(.int .i64 0), (.int .i64 0), (.int .i64 0), (.int .i64 0), (.int .u32 0), (.int .u32 0), (.int .u32 0), (.int .u32 0), (.int .u32 0), (.int .u32 0), (.int .u32 0)]
 (f116c2 X L b0_))
 (f116c4 X L b0_ b12_)) fun go24_ =>
 M.ite (!(eqB r22_.2.1 0))
 (go24_ (true, ()))
 (M.callS (.one (.cell .bool)) (X (.call 111 [(.slice r22_.1.1 r22_.1.2.1 r22_.1.2.2), (.slice x.1.1 x.1.2.1 x.1.2.2)])) fun (r29_ : Bool) =>
 go24_ ((!r29_), ()))
def f116c6 (X : XT) (L : LoopI) (x : (SL) × Unit) (b0_ : Nat) (b12_ : Nat) : M (Value) :=
 M.load (.agg [(.int .i64), (.int .i64), (.int .i64), (.int .i64), (.int .u32), (.int .u32), (.int .u32), (.int .u32), (.int .u32), (.int .u32), (.int .u32)]) 11 (Addr.mk b12_ 0 none) fun (x21_ : Int × Int × Int × Int × Int × Int × Int × Int × Int × Int × Int × Unit) =>
 M.callS (.tuple [(.cell .slice), (.cell (.int .i64))]) (X (.call 146 [(.agg ⟨[(.int .i64 x21_.1), (.int .i64 x21_.2.1), (.int .i64 x21_.2.2.1), (.int .i64 x21_.2.2.2.1), (.int .u32 x21_.2.2.2.2.1), (.int .u32 x21_.2.2.2.2.2.1), (.int .u32 x21_.2.2.2.2.2.2.1), (.int .u32 x21_.2.2.2.2.2.2.2.1), (.int .u32 x21_.2.2.2.2.2.2.2.2.1), (.int .u32 x21_.2.2.2.2.2.2.2.2.2.1), (.int .u32 x21_.2.2.2.2.2.2.2.2.2.2.1)]⟩)])) fun (r22_ : (SL) × (Int) × Unit) =>
 f116c5 X L x b0_ b12_ r22_
def f116c7 (X : XT) (L : LoopI) (x : (SL) × Unit) (b0_ : Nat) (b7_ : Nat) (b12_ : Nat) : M (Value) :=
 M.bind (L (σ := (Int) × Unit) (ρ := (Unit) ⊕ (Unit)) (fun s13_ =>
 M.ite (ltB s13_.1 6)
 (M.callS (.one (.cell (.int .i64))) (X (.call 145 [(.int .i64 4), (.pointer (some (Addr.mk b7_ 0 none)))])) fun (r15_ : Int) =>
 M.guard (inB s13_.1 6)
 (M.store (((Addr.mk b12_ 0 none).add 4).add ((Int.toNat s13_.1) * 1)) [(.int .u32 (wrapW .u32 r15_))]
 (M.pure (.inl ((addW .i64 s13_.1 1), ())))))
 (M.pure (.inr (.inl (()))))) (0, ())) <| M.sum (fun (j18_ : Unit) =>
 M.callS (.one (.cell (.int .i64))) (X (.call 145 [(.int .i64 4), (.pointer (some (Addr.mk b7_ 0 none)))])) fun (r19_ : Int) =>
 M.store ((Addr.mk b12_ 0 none).add 10) [(.int .u32 (wrapW .u32 r19_))]
 (f116c6 X L x b0_ b12_)) (fun _ => M.stuck)
def f116c8 (X : XT) (L : LoopI) (x : (SL) × Unit) (b0_ : Nat) (b7_ : Nat) (r8_ : Int) (r9_ : Int) (r10_ : Int) : M (Value) :=
 M.callS (.one (.cell (.int .i64))) (X (.call 145 [(.int .i64 2), (.pointer (some (Addr.mk b7_ 0 none)))])) fun (r11_ : Int) =>
 M.new (.cells (Row.ofList [(.int .i64 0), (.int .i64 0), (.int .i64 0), (.int .i64 0), (.int .u32 0), (.int .u32 0), (.int .u32 0), (.int .u32 0), (.int .u32 0), (.int .u32 0), (.int .u32 0)]) 76 false (0, 0) false) fun b12_ =>
 M.store (Addr.mk b12_ 0 none) [(.int .i64 r8_), (.int .i64 r9_), (.int .i64 r11_), (.int .i64 r10_), (.int .u32 0), (.int .u32 0), (.int .u32 0), (.int .u32 0), (.int .u32 0), (.int .u32 0), (.int .u32 0)]
 (f116c7 X L x b0_ b7_ b12_)
def f116c9 (X : XT) (L : LoopI) (x : (SL) × Unit) (b0_ : Nat) : M (Value) :=
 M.new (.cells (Row.ofList [(.slice none 0 0)]) 61 false (0, 0) false) fun b7_ =>
 M.store (Addr.mk b7_ 0 none) [(.slice x.1.1 x.1.2.1 x.1.2.2)]
 (M.callS (.one (.cell (.int .i64))) (X (.call 145 [(.int .i64 2), (.pointer (some (Addr.mk b7_ 0 none)))])) fun (r8_ : Int) =>
 M.callS (.one (.cell (.int .i64))) (X (.call 145 [(.int .i64 1), (.pointer (some (Addr.mk b7_ 0 none)))])) fun (r9_ : Int) =>
 M.callS (.one (.cell (.int .i64))) (X (.call 145 [(.int .i64 1), (.pointer (some (Addr.mk b7_ 0 none)))])) fun (r10_ : Int) =>
 f116c8 X L x b0_ b7_ r8_ r9_ r10_)
def f116c10 (X : XT) (L : LoopI) (x : (SL) × Unit) (b0_ : Nat) (v1_ : Int) : M (Value) :=
 M.ite (ltB v1_ 112)
 (M.store (Addr.mk b0_ 0 none) [(.int .i64 0), (.int .i64 0), (.int .i64 0), (.int .i64 0), (.int .u32 0), (.int .u32 0), (.int .u32 0), (.int .u32 0), (.int .u32 0), (.int .u32 0), (.int .u32 0)]
 (f116c0 X L b0_))
 (M.ite (ltB 112 ((x.1.2.1 : Nat) : Int))
 (M.store (Addr.mk b0_ 0 none) [(.int .i64 0), (.int .i64 0), (.int .i64 0), (.int .i64 0), (.int .u32 0), (.int .u32 0), (.int .u32 0), (.int .u32 0), (.int .u32 0), (.int .u32 0), (.int .u32 0)]
 (f116c1 X L b0_))
 (f116c9 X L x b0_))
def f116 (X : XT) (L : LoopI) (x : (SL) × Unit) : M Value :=
 M.new (.cells (Row.ofList [(.int .i64 0), (.int .i64 0), (.int .i64 0), (.int .i64 0), (.int .u32 0), (.int .u32 0), (.int .u32 0), (.int .u32 0), (.int .u32 0), (.int .u32 0), (.int .u32 0)]) 76 false (0, 0) false) fun b0_ =>
 f116c10 X L x b0_ ((x.1.2.1 : Nat) : Int)

theorem e116 (X : XT) (L : LoopI) (x : (SL) × Unit) : evBody CC { call := X, loop := L } 116 (shsInj [(.cell .slice)] x) = f116 X L x := by kernel_rfl

/-- hayrick/hayrickref06.blank -/
def f117c0 (X : XT) (L : LoopI) (b1_ : Nat) (s2_ : (Int) × Unit) (x4_ : SL) : M (((Int) × Unit) ⊕ ((Unit) ⊕ (Unit))) :=
 M.guard (decide (0 ≤ 64) && decide (64 ≤ 64) && decide ((1 : Int) * 64 ≤ 2 ^ 48))
 (M.new (.cells (Row.rep [(.int .u8 0)] (Int.toNat 64)) 5 false (0, 0) false) fun b5_ =>
 M.new (.cells (Row.ofList [(.slice (some (Addr.mk b5_ 0 none)) (Int.toNat 64) (Int.toNat 64))]) 61 false (0, 0) false) fun b6_ =>
 M.append 61 1 24 x4_.1 x4_.2.1 x4_.2.2 (.slice (some (Addr.mk b6_ 0 none)) 1 1) fun a7_ n8_ c9_ =>
 M.store ((Addr.mk b1_ 0 none).add 0) [(.slice a7_ n8_ c9_)]
 (M.pure (.inl ((addW .i64 s2_.1 1), ()))))
def f117c1 (X : XT) (L : LoopI) (x : (Int) × Unit) (b0_ : Nat) (b1_ : Nat) : M (Value) :=
 M.bind (L (σ := (Int) × Unit) (ρ := (Unit) ⊕ (Unit)) (fun s2_ =>
 M.ite (ltB s2_.1 x.1)
 (M.load (.cell .slice) 1 ((Addr.mk b1_ 0 none).add 0) fun (x4_ : SL) =>
 f117c0 X L b1_ s2_ x4_)
 (M.pure (.inr (.inl (()))))) (0, ())) <| M.sum (fun (j11_ : Unit) =>
 M.load (.agg [.slice, .bool]) 2 (Addr.mk b1_ 0 none) fun (x12_ : SL × Bool × Unit) =>
 M.store (Addr.mk b0_ 0 none) [(.slice x12_.1.1 x12_.1.2.1 x12_.1.2.2), (.bool x12_.2.1)]
 (M.load (.agg [.slice, .bool]) 2 (Addr.mk b0_ 0 none) fun (x13_ : SL × Bool × Unit) =>
 M.pure (.agg ⟨[(.slice x13_.1.1 x13_.1.2.1 x13_.1.2.2), (.bool x13_.2.1)]⟩))) (fun _ => M.stuck)
def f117 (X : XT) (L : LoopI) (x : (Int) × Unit) : M Value :=
 M.new (.cells (Row.ofList [(.slice none 0 0), (.bool false)]) 233 false (0, 0) false) fun b0_ =>
 M.new (.cells (Row.ofList [(.slice none 0 0), (.bool false)]) 233 false (0, 0) false) fun b1_ =>
 M.store (Addr.mk b1_ 0 none) [(.slice none 0 0), (.bool false)]
 (f117c1 X L x b0_ b1_)

theorem e117 (X : XT) (L : LoopI) (x : (Int) × Unit) : evBody CC { call := X, loop := L } 117 (shsInj [(.cell (.int .i64))] x) = f117 X L x := by kernel_rfl

/-- (*hayrick/array.Array).Disks -/
def f118 (X : XT) (L : LoopI) (x : (PA) × Unit) : M Value :=
 M.eqPtr x.1 none fun (q0_ : Bool) =>
 M.ite q0_
 (M.pure (.int .i64 0))
 (M.deref x.1 fun a1_ =>
 M.load (.cell .slice) 1 (a1_.add 1) fun (x2_ : SL) =>
 M.pure (.int .i64 ((x2_.2.1 : Nat) : Int)))

theorem e118 (X : XT) (L : LoopI) (x : (PA) × Unit) : evBody CC { call := X, loop := L } 118 (shsInj [(.cell .ptr)] x) = f118 X L x := by kernel_rfl

/-- hayrick/code.May -/
def f119 (X : XT) (L : LoopI) (x : (Int) × (Int) × Unit) : M Value :=
 M.join (fun (j0_ : (Bool) × Unit) =>
 M.pure (.bool j0_.1)) fun go1_ =>
 M.ite (leB 1 x.1)
 (M.ite (ltB x.1 x.2.1)
 (go1_ ((leB x.2.1 255), ()))
 (go1_ (false, ())))
 (go1_ (false, ()))

theorem e119 (X : XT) (L : LoopI) (x : (Int) × (Int) × Unit) : evBody CC { call := X, loop := L } 119 (shsInj [(.cell (.int .i64)), (.cell (.int .i64))] x) = f119 X L x := by kernel_rfl

/-- (*hayrick/array.Array).Sectors -/
def f120 (X : XT) (L : LoopI) (x : (PA) × Unit) : M Value :=
 M.eqPtr x.1 none fun (q0_ : Bool) =>
 M.ite q0_
 (M.pure (.int .i64 0))
 (M.deref x.1 fun a1_ =>
 M.load (.cell (.int .i64)) 1 (a1_.add 0) fun (x2_ : Int) =>
 M.pure (.int .i64 x2_))

theorem e120 (X : XT) (L : LoopI) (x : (PA) × Unit) : evBody CC { call := X, loop := L } 120 (shsInj [(.cell .ptr)] x) = f120 X L x := by kernel_rfl

/-- hayrick/hayrickref04.May -/
def f121 (X : XT) (L : LoopI) (x : (Int) × (Int) × Unit) : M Value :=
 M.join (fun (j0_ : (Bool) × Unit) =>
 M.pure (.bool j0_.1)) fun go1_ =>
 M.ite (ltB 0 x.1)
 (M.ite (ltB x.1 x.2.1)
 (go1_ ((ltB x.2.1 256), ()))
 (go1_ (false, ())))
 (go1_ (false, ()))

theorem e121 (X : XT) (L : LoopI) (x : (Int) × (Int) × Unit) : evBody CC { call := X, loop := L } 121 (shsInj [(.cell (.int .i64)), (.cell (.int .i64))] x) = f121 X L x := by kernel_rfl

/-- slices.Clone[[]int,int] -/
def f122 (X : XT) (L : LoopI) (x : (SL) × Unit) : M Value :=
 M.ite x.1.1.isNone
 (M.pure (.slice none 0 0))
 (M.new (.cells (Row.ofList []) 3 false (0, 0) false) fun b0_ =>
 M.append 3 1 8 (some (Addr.mk b0_ 0 none)) 0 0 (.slice x.1.1 x.1.2.1 x.1.2.2) fun a1_ n2_ c3_ =>
 M.pure (.slice a1_ n2_ c3_))

theorem e122 (X : XT) (L : LoopI) (x : (SL) × Unit) : evBody CC { call := X, loop := L } 122 (shsInj [(.cell .slice)] x) = f122 X L x := by kernel_rfl

/-- slices.Sort[[]int,int] -/
def f123 (X : XT) (L : LoopI) (x : (SL) × Unit) : M Value :=
 let v0_ : Int := ((x.1.2.1 : Nat) : Int)
 M.callS (.one (.cell (.int .i64))) (X (.call 148 [(.int .u64 (wrapW .u64 v0_))])) fun (r2_ : Int) =>
 M.callS (.tuple []) (X (.call 147 [(.slice x.1.1 x.1.2.1 x.1.2.2), (.int .i64 0), (.int .i64 v0_), (.int .i64 r2_)])) fun (r3_ : Unit) =>
 M.pure (.tuple ⟨[]⟩)

theorem e123 (X : XT) (L : LoopI) (x : (SL) × Unit) : evBody CC { call := X, loop := L } 123 (shsInj [(.cell .slice)] x) = f123 X L x := by kernel_rfl

/-- (*hayrick/logs.Log).does -/
def f124c0 (X : XT) (L : LoopI) (x : (PA) × (Value) × Unit) : M (Value) :=
 M.join (fun (j0_ : (Bool) × Unit) =>
 M.ite j0_.1
 (M.pure (.int .i64 2))
 (M.deref x.1 fun a2_ =>
 M.load (.cell .bool) 1 (a2_.add 7) fun (x3_ : Bool) =>
 M.ite x3_
 (M.pure (.int .i64 20))
 (callV CC ⟨X, L⟩ x.2.1 [] fun w5_ => M.need (RSh.prj (.one (.cell (.int .i64))) w5_) fun (r4_ : Int) =>
 M.pure (.int .i64 r4_)))) fun go1_ =>
 M.eqPtr x.1 none fun (q6_ : Bool) =>
 M.ite q6_
 (go1_ (true, ()))
 (M.deref x.1 fun a7_ =>
 M.load (.cell .ptr) 1 (a7_.add 0) fun (x8_ : PA) =>
 M.eqPtr x8_ none fun (q9_ : Bool) =>
 go1_ (q9_, ()))
def f124 (X : XT) (L : LoopI) (x : (PA) × (Value) × Unit) : M Value :=
 f124c0 X L x

theorem e124 (X : XT) (L : LoopI) (x : (PA) × (Value) × Unit) : evBody CC { call := X, loop := L } 124 (shsInj [(.cell .ptr), (.cell .val)] x) = f124 X L x := by kernel_rfl

/-- (*hayrick/logs.Log).Append$1 -/
def f125c0 (X : XT) (L : LoopI) (x : (PA) × (PA) × (PA) × (PA) × Unit) (x75_ : PA) (a76_ : Addr) (x77_ : SL) (v78_ : Int) (r85_ : Int) : M (Value) :=
 M.load (.cell .slice) 1 (a76_.add 5) fun (x86_ : SL) => cond (veqv (.slice x86_.1 x86_.2.1 x86_.2.2) (.slice x77_.1 x77_.2.1 x77_.2.2)) (M.deref x.2.2.1 fun a87_ =>
 M.load (.cell .ptr) 1 a87_ fun (x88_ : PA) => cond (veqv (.pointer x88_) (.pointer x75_)) (M.ite (eqB v78_ r85_)
 (M.deref x.2.2.1 fun a90_ =>
 M.load (.cell .ptr) 1 a90_ fun (x91_ : PA) =>
 M.callS (.one (.cell (.int .i64))) (X (.call 131 [(.pointer x91_)])) fun (r92_ : Int) =>
 M.pure (.int .i64 r92_))
 (M.pure (.int .i64 0))) M.stuck) M.stuck
def f125c1 (X : XT) (L : LoopI) (x : (PA) × (PA) × (PA) × (PA) × Unit) (x75_ : PA) (a76_ : Addr) (x77_ : SL) (v78_ : Int) : M (Value) :=
 M.deref x.2.2.1 fun a79_ =>
 M.load (.cell .ptr) 1 a79_ fun (x80_ : PA) =>
 M.callS (.one (.cell (.int .i64))) (X (.call 128 [(.pointer x80_)])) fun (r81_ : Int) =>
 M.load (.cell .slice) 1 (a76_.add 5) fun (x82_ : SL) => cond (veqv (.slice x82_.1 x82_.2.1 x82_.2.2) (.slice x77_.1 x77_.2.1 x77_.2.2)) (M.deref x.2.2.1 fun a83_ =>
 M.load (.cell .ptr) 1 a83_ fun (x84_ : PA) => cond (veqv (.pointer x84_) (.pointer x75_)) (M.callS (.one (.cell (.int .i64))) (X (.call 130 [(.int .i64 r81_)])) fun (r85_ : Int) =>
 f125c0 X L x x75_ a76_ x77_ v78_ r85_) M.stuck) M.stuck
def f125c2 (X : XT) (L : LoopI) (x : (PA) × (PA) × (PA) × (PA) × Unit) (x26_ : PA) (x28_ : PA) (a42_ : PA) (n43_ : Nat) (c44_ : Nat) (a63_ : PA) (n64_ : Nat) (c65_ : Nat) : M (Value) :=
 M.deref x.2.2.1 fun a66_ =>
 M.load (.cell .ptr) 1 a66_ fun (x67_ : PA) => cond (veqv (.pointer x67_) (.pointer x28_)) (M.deref x.2.2.1 fun a68_ =>
 M.load (.cell .ptr) 1 a68_ fun (x69_ : PA) => cond (veqv (.pointer x69_) (.pointer x26_)) (M.deref x26_ fun a70_ =>
 M.store (a70_.add 5) [(.slice a42_ n43_ c44_)]
 (M.deref x.2.2.1 fun a71_ =>
 M.load (.cell .ptr) 1 a71_ fun (x72_ : PA) => cond (veqv (.pointer x72_) (.pointer x28_)) (M.deref x28_ fun a73_ =>
 M.store (a73_.add 6) [(.slice a63_ n64_ c65_)]
 (M.deref x.2.2.1 fun a74_ =>
 M.load (.cell .ptr) 1 a74_ fun (x75_ : PA) =>
 M.deref x75_ fun a76_ =>
 M.load (.cell .slice) 1 (a76_.add 5) fun (x77_ : SL) =>
 f125c1 X L x x75_ a76_ x77_ ((x77_.2.1 : Nat) : Int))) M.stuck)) M.stuck) M.stuck
def f125c3 (X : XT) (L : LoopI) (x : (PA) × (PA) × (PA) × (PA) × Unit) (x26_ : PA) (x28_ : PA) (x37_ : PA) (a38_ : Addr) (x39_ : SL) (a42_ : PA) (n43_ : Nat) (c44_ : Nat) (r54_ : SL) : M (Value) :=
 M.load (.cell .slice) 1 (a38_.add 6) fun (x55_ : SL) => cond (veqv (.slice x55_.1 x55_.2.1 x55_.2.2) (.slice x39_.1 x39_.2.1 x39_.2.2)) (M.deref x.2.2.1 fun a56_ =>
 M.load (.cell .ptr) 1 a56_ fun (x57_ : PA) => cond (veqv (.pointer x57_) (.pointer x37_)) (M.deref x.2.2.1 fun a58_ =>
 M.load (.cell .ptr) 1 a58_ fun (x59_ : PA) => cond (veqv (.pointer x59_) (.pointer x28_)) (M.deref x.2.2.1 fun a60_ =>
 M.load (.cell .ptr) 1 a60_ fun (x61_ : PA) => cond (veqv (.pointer x61_) (.pointer x26_)) (M.new (.cells (Row.ofList [(.slice r54_.1 r54_.2.1 r54_.2.2)]) 61 false (0, 0) false) fun b62_ =>
 M.append 61 1 24 x39_.1 x39_.2.1 x39_.2.2 (.slice (some (Addr.mk b62_ 0 none)) 1 1) fun a63_ n64_ c65_ =>
 f125c2 X L x x26_ x28_ a42_ n43_ c44_ a63_ n64_ c65_) M.stuck) M.stuck) M.stuck) M.stuck
def f125c4 (X : XT) (L : LoopI) (x : (PA) × (PA) × (PA) × (PA) × Unit) (x26_ : PA) (x28_ : PA) (x37_ : PA) (a38_ : Addr) (x39_ : SL) (x41_ : SL) (a42_ : PA) (n43_ : Nat) (c44_ : Nat) : M (Value) :=
 M.deref x.2.1 fun a45_ =>
 M.load (.cell .slice) 1 a45_ fun (x46_ : SL) => cond (veqv (.slice x46_.1 x46_.2.1 x46_.2.2) (.slice x41_.1 x41_.2.1 x41_.2.2)) (M.load (.cell .slice) 1 (a38_.add 6) fun (x47_ : SL) => cond (veqv (.slice x47_.1 x47_.2.1 x47_.2.2) (.slice x39_.1 x39_.2.1 x39_.2.2)) (M.deref x.2.2.1 fun a48_ =>
 M.load (.cell .ptr) 1 a48_ fun (x49_ : PA) => cond (veqv (.pointer x49_) (.pointer x37_)) (M.deref x.2.2.1 fun a50_ =>
 M.load (.cell .ptr) 1 a50_ fun (x51_ : PA) => cond (veqv (.pointer x51_) (.pointer x28_)) (M.deref x.2.2.1 fun a52_ =>
 M.load (.cell .ptr) 1 a52_ fun (x53_ : PA) => cond (veqv (.pointer x53_) (.pointer x26_)) (M.callS (.one (.cell .slice)) (X (.call 129 [(.slice x41_.1 x41_.2.1 x41_.2.2)])) fun (r54_ : SL) =>
 f125c3 X L x x26_ x28_ x37_ a38_ x39_ a42_ n43_ c44_ r54_) M.stuck) M.stuck) M.stuck) M.stuck) M.stuck
def f125c5 (X : XT) (L : LoopI) (x : (PA) × (PA) × (PA) × (PA) × Unit) (x26_ : PA) (x28_ : PA) (x32_ : SL) (x34_ : Int × Bool × Int × Int × Unit) : M (Value) :=
 M.new (.cells (Row.ofList [(.int .i64 x34_.1), (.bool x34_.2.1), (.int .i64 x34_.2.2.1), (.int .i64 x34_.2.2.2.1)]) 143 false (0, 0) false) fun b35_ =>
 M.deref x.2.2.1 fun a36_ =>
 M.load (.cell .ptr) 1 a36_ fun (x37_ : PA) =>
 M.deref x37_ fun a38_ =>
 M.load (.cell .slice) 1 (a38_.add 6) fun (x39_ : SL) =>
 M.deref x.2.1 fun a40_ =>
 M.load (.cell .slice) 1 a40_ fun (x41_ : SL) =>
 M.append 143 4 32 x32_.1 x32_.2.1 x32_.2.2 (.slice (some (Addr.mk b35_ 0 none)) 1 1) fun a42_ n43_ c44_ =>
 f125c4 X L x x26_ x28_ x37_ a38_ x39_ x41_ a42_ n43_ c44_
def f125c6 (X : XT) (L : LoopI) (x : (PA) × (PA) × (PA) × (PA) × Unit) (r22_ : (Int) × (Int) × Unit) (v24_ : Bool) : M (Value) :=
 M.ite v24_
 (M.pure (.int .i64 r22_.2.1))
 (M.deref x.2.2.1 fun a25_ =>
 M.load (.cell .ptr) 1 a25_ fun (x26_ : PA) =>
 M.deref x.2.2.1 fun a27_ =>
 M.load (.cell .ptr) 1 a27_ fun (x28_ : PA) =>
 M.deref x.2.2.1 fun a29_ =>
 M.load (.cell .ptr) 1 a29_ fun (x30_ : PA) =>
 M.deref x30_ fun a31_ =>
 M.load (.cell .slice) 1 (a31_.add 5) fun (x32_ : SL) =>
 M.deref x.1 fun a33_ =>
 M.load (.agg [(.int .i64), .bool, (.int .i64), (.int .i64)]) 4 a33_ fun (x34_ : Int × Bool × Int × Int × Unit) =>
 f125c5 X L x x26_ x28_ x32_ x34_)
def f125c7 (X : XT) (L : LoopI) (x : (PA) × (PA) × (PA) × (PA) × Unit) (x7_ : PA) (a8_ : Addr) (x9_ : Int) (x11_ : PA) (a12_ : Addr) (x13_ : SL) (v14_ : Int) (r15_ : Int) : M (Value) :=
 M.load (.cell .slice) 1 (a12_.add 5) fun (x16_ : SL) => cond (veqv (.slice x16_.1 x16_.2.1 x16_.2.2) (.slice x13_.1 x13_.2.1 x13_.2.2)) (M.deref x.2.2.1 fun a17_ =>
 M.load (.cell .ptr) 1 a17_ fun (x18_ : PA) => cond (veqv (.pointer x18_) (.pointer x11_)) (M.load (.cell (.int .i64)) 1 (a8_.add 4) fun (x19_ : Int) => cond (veqv (.int .i64 x19_) (.int .i64 x9_)) (M.deref x.2.2.1 fun a20_ =>
 M.load (.cell .ptr) 1 a20_ fun (x21_ : PA) => cond (veqv (.pointer x21_) (.pointer x7_)) (M.callS (.tuple [(.cell (.int .u32)), (.cell (.int .i64))]) (X (.call 127 [(.int .i64 r15_), (.int .i64 x9_), (.int .i64 v14_)])) fun (r22_ : (Int) × (Int) × Unit) =>
 M.deref x.2.2.2.1 fun a23_ =>
 M.store a23_ [(.int .u32 r22_.1)]
 (f125c6 X L x r22_ (!(eqB r22_.2.1 0)))) M.stuck) M.stuck) M.stuck) M.stuck
def f125c8 (X : XT) (L : LoopI) (x : (PA) × (PA) × (PA) × (PA) × Unit) : M (Value) :=
 M.deref x.2.2.1 fun a4_ =>
 M.load (.cell .ptr) 1 a4_ fun (x5_ : PA) =>
 M.deref x.2.2.1 fun a6_ =>
 M.load (.cell .ptr) 1 a6_ fun (x7_ : PA) =>
 M.deref x7_ fun a8_ =>
 M.load (.cell (.int .i64)) 1 (a8_.add 4) fun (x9_ : Int) =>
 M.deref x.2.2.1 fun a10_ =>
 M.load (.cell .ptr) 1 a10_ fun (x11_ : PA) =>
 M.deref x11_ fun a12_ =>
 M.load (.cell .slice) 1 (a12_.add 5) fun (x13_ : SL) =>
 M.callS (.one (.cell (.int .i64))) (X (.call 128 [(.pointer x5_)])) fun (r15_ : Int) =>
 f125c7 X L x x7_ a8_ x9_ x11_ a12_ x13_ ((x13_.2.1 : Nat) : Int) r15_
def f125c9 (X : XT) (L : LoopI) (x : (PA) × (PA) × (PA) × (PA) × Unit) (go3_ : (Unit) → M (Value)) (x117_ : SL) (v118_ : Nat) (a122_ : Addr) : M (Value) :=
 M.store (a122_.add 3) [(.slice (x117_.1.map (·.add (v118_ * 1))) (x117_.2.1 - v118_) (x117_.2.2 - v118_))]
 (M.deref x.2.2.1 fun a123_ =>
 M.load (.cell .ptr) 1 a123_ fun (x124_ : PA) =>
 M.deref x124_ fun a125_ =>
 M.load (.cell .slice) 1 (a125_.add 2) fun (x126_ : SL) =>
 M.deref x.2.2.1 fun a127_ =>
 M.load (.cell .ptr) 1 a127_ fun (x128_ : PA) =>
 M.deref x128_ fun a129_ =>
 M.load (.cell (.int .i64)) 1 (a129_.add 4) fun (x130_ : Int) =>
 M.guard (inB x130_ x126_.2.1)
 (M.deref x126_.1 fun a131_ =>
 M.store (a131_.add ((Int.toNat x130_) * 1)) [(.int .u64 0)]
 (go3_ (()))))
def f125c10 (X : XT) (L : LoopI) (x : (PA) × (PA) × (PA) × (PA) × Unit) (go3_ : (Unit) → M (Value)) (x105_ : PA) (x107_ : PA) (a112_ : Addr) : M (Value) :=
 M.load (.cell (.int .i64)) 1 (a112_.add ((Int.toNat 0) * 1)) fun (x113_ : Int) =>
 M.deref x.2.2.1 fun a114_ =>
 M.load (.cell .ptr) 1 a114_ fun (x115_ : PA) =>
 M.deref x115_ fun a116_ =>
 M.load (.cell .slice) 1 (a116_.add 3) fun (x117_ : SL) =>
 M.guard (upB 1 x117_.2.1)
 (M.deref x105_ fun a119_ =>
 M.store (a119_.add 4) [(.int .i64 x113_)]
 (M.deref x.2.2.1 fun a120_ =>
 M.load (.cell .ptr) 1 a120_ fun (x121_ : PA) => cond (veqv (.pointer x121_) (.pointer x107_)) (M.deref x107_ fun a122_ =>
 f125c9 X L x go3_ x117_ (Int.toNat 1) a122_) M.stuck))
def f125c11 (X : XT) (L : LoopI) (x : (PA) × (PA) × (PA) × (PA) × Unit) (go3_ : (Unit) → M (Value)) (a100_ : Addr) : M (Value) :=
 M.load (.cell .slice) 1 (a100_.add 3) fun (x101_ : SL) =>
 M.ite (eqB ((x101_.2.1 : Nat) : Int) 0)
 (M.pure (.int .i64 7))
 (M.deref x.2.2.1 fun a104_ =>
 M.load (.cell .ptr) 1 a104_ fun (x105_ : PA) =>
 M.deref x.2.2.1 fun a106_ =>
 M.load (.cell .ptr) 1 a106_ fun (x107_ : PA) =>
 M.deref x.2.2.1 fun a108_ =>
 M.load (.cell .ptr) 1 a108_ fun (x109_ : PA) =>
 M.deref x109_ fun a110_ =>
 M.load (.cell .slice) 1 (a110_.add 3) fun (x111_ : SL) =>
 M.guard (inB 0 x111_.2.1)
 (M.deref x111_.1 fun a112_ =>
 f125c10 X L x go3_ x105_ x107_ a112_))
def f125c12 (X : XT) (L : LoopI) (x : (PA) × (PA) × (PA) × (PA) × Unit) : M (Value) :=
 M.join (fun (j0_ : (Bool) × Unit) =>
 M.ite j0_.1
 (M.pure (.int .i64 1))
 (M.join (fun (j2_ : Unit) =>
 f125c8 X L x) fun go3_ =>
 M.deref x.2.2.1 fun a93_ =>
 M.load (.cell .ptr) 1 a93_ fun (x94_ : PA) =>
 M.deref x94_ fun a95_ =>
 M.load (.cell (.int .i64)) 1 (a95_.add 4) fun (x96_ : Int) =>
 M.ite (ltB x96_ 0)
 (M.deref x.2.2.1 fun a98_ =>
 M.load (.cell .ptr) 1 a98_ fun (x99_ : PA) =>
 M.deref x99_ fun a100_ =>
 f125c11 X L x go3_ a100_)
 (go3_ (())))) fun go1_ =>
 M.deref x.1 fun a132_ =>
 M.load (.agg [(.int .i64), .bool, (.int .i64), (.int .i64)]) 4 a132_ fun (x133_ : Int × Bool × Int × Int × Unit) =>
 M.callS (.one (.cell .bool)) (X (.call 126 [(.agg ⟨[(.int .i64 x133_.1), (.bool x133_.2.1), (.int .i64 x133_.2.2.1), (.int .i64 x133_.2.2.2.1)]⟩)])) fun (r134_ : Bool) =>
 M.ite (!r134_)
 (go1_ (true, ()))
 (M.deref x.2.1 fun a136_ =>
 M.load (.cell .slice) 1 a136_ fun (x137_ : SL) =>
 go1_ ((!(eqB ((x137_.2.1 : Nat) : Int) 112)), ()))
def f125 (X : XT) (L : LoopI) (x : (PA) × (PA) × (PA) × (PA) × Unit) : M Value :=
 f125c12 X L x

theorem e125 (X : XT) (L : LoopI) (x : (PA) × (PA) × (PA) × (PA) × Unit) : evBody CC { call := X, loop := L } 125 (shsInj [(.cell .ptr), (.cell .ptr), (.cell .ptr), (.cell .ptr)] x) = f125 X L x := by kernel_rfl

/-- hayrick/summary.May -/
def f126c0 (X : XT) (L : LoopI) (b0_ : Nat) (go2_ : ((Bool) × Unit) → M (Value)) : M (Value) :=
 M.load (.cell (.int .i64)) 1 ((Addr.mk b0_ 0 none).add 0) fun (x9_ : Int) =>
 M.ite (ltB x9_ 1)
 (go2_ (true, ()))
 (M.load (.cell (.int .i64)) 1 ((Addr.mk b0_ 0 none).add 0) fun (x11_ : Int) =>
 M.ite (ltB 4 x11_)
 (go2_ (true, ()))
 (M.load (.cell (.int .i64)) 1 ((Addr.mk b0_ 0 none).add 2) fun (x13_ : Int) =>
 M.ite (ltB x13_ 1)
 (go2_ (true, ()))
 (M.load (.cell (.int .i64)) 1 ((Addr.mk b0_ 0 none).add 2) fun (x15_ : Int) =>
 M.ite (ltB 64 x15_)
 (go2_ (true, ()))
 (M.load (.cell (.int .i64)) 1 ((Addr.mk b0_ 0 none).add 3) fun (x17_ : Int) =>
 go2_ ((ltB x17_ 0), ())))))
def f126c1 (X : XT) (L : LoopI) (x : (Int × Bool × Int × Int × Unit) × Unit) : M (Value) :=
 M.new (.cells (Row.ofList [(.int .i64 x.1.1), (.bool x.1.2.1), (.int .i64 x.1.2.2.1), (.int .i64 x.1.2.2.2.1)]) 143 false (0, 0) false) fun b0_ =>
 M.join (fun (j1_ : (Bool) × Unit) =>
 M.ite j1_.1
 (M.pure (.bool false))
 (M.load (.cell (.int .i64)) 1 ((Addr.mk b0_ 0 none).add 0) fun (x3_ : Int) =>
 M.ite (eqB x3_ 1)
 (M.load (.cell (.int .i64)) 1 ((Addr.mk b0_ 0 none).add 3) fun (x5_ : Int) =>
 M.pure (.bool (ltB x5_ 34)))
 (M.load (.cell (.int .i64)) 1 ((Addr.mk b0_ 0 none).add 3) fun (x7_ : Int) =>
 M.pure (.bool (eqB x7_ 0))))) fun go2_ =>
 f126c0 X L b0_ go2_
def f126 (X : XT) (L : LoopI) (x : (Int × Bool × Int × Int × Unit) × Unit) : M Value :=
 f126c1 X L x

theorem e126 (X : XT) (L : LoopI) (x : (Int × Bool × Int × Int × Unit) × Unit) : evBody CC { call := X, loop := L } 126 (shsInj [(.agg [(.int .i64), .bool, (.int .i64), (.int .i64)])] x) = f126 X L x := by kernel_rfl

/-- hayrick/summary.Address -/
def f127c0 (X : XT) (L : LoopI) (x : (Int) × (Int) × (Int) × Unit) : M (Value) :=
 M.join (fun (j0_ : (Bool) × Unit) =>
 M.ite j0_.1
 (M.pure (.tuple ⟨[(.int .u32 0), (.int .i64 1)]⟩))
 (M.callS (.one (.cell (.int .i64))) (X (.call 144 [(.int .i64 x.1)])) fun (r4_ : Int) =>
 M.pure (.tuple ⟨[(.int .u32 (wrapW .u32 (addW .i64 (addW .i64 (addW .i64 (mulW .i64 (mulW .i64 x.2.1 4) x.1) r4_) x.2.2.1) 1))), (.int .i64 0)]⟩))) fun go1_ =>
 M.callS (.one (.cell .bool)) (X (.call 149 [(.int .i64 x.1)])) fun (r9_ : Bool) =>
 M.ite (!r9_)
 (go1_ (true, ()))
 (M.ite (ltB x.2.1 0)
 (go1_ (true, ()))
 (M.ite (leB 128 x.2.1)
 (go1_ (true, ()))
 (M.ite (ltB x.2.2.1 0)
 (go1_ (true, ()))
 (M.callS (.one (.cell (.int .i64))) (X (.call 130 [(.int .i64 x.1)])) fun (r14_ : Int) =>
 go1_ ((leB r14_ x.2.2.1), ())))))
def f127 (X : XT) (L : LoopI) (x : (Int) × (Int) × (Int) × Unit) : M Value :=
 f127c0 X L x

theorem e127 (X : XT) (L : LoopI) (x : (Int) × (Int) × (Int) × Unit) : evBody CC { call := X, loop := L } 127 (shsInj [(.cell (.int .i64)), (.cell (.int .i64)), (.cell (.int .i64))] x) = f127 X L x := by kernel_rfl

/-- (*hayrick/logs.Log).k -/
def f128 (X : XT) (L : LoopI) (x : (PA) × Unit) : M Value :=
 M.deref x.1 fun a0_ =>
 M.load (.cell .ptr) 1 (a0_.add 0) fun (x1_ : PA) =>
 M.callS (.one (.agg [(.int .i64), (.int .i64), (.int .i64)])) (X (.call 88 [(.pointer x1_)])) fun (r2_ : Int × Int × Int × Unit) =>
 M.pure (.int .i64 r2_.1)

theorem e128 (X : XT) (L : LoopI) (x : (PA) × Unit) : evBody CC { call := X, loop := L } 128 (shsInj [(.cell .ptr)] x) = f128 X L x := by kernel_rfl

/-- bytes.Clone -/
def f129 (X : XT) (L : LoopI) (x : (SL) × Unit) : M Value :=
 M.ite x.1.1.isNone
 (M.pure (.slice none 0 0))
 (M.new (.cells (Row.ofList []) 5 false (0, 0) false) fun b0_ =>
 M.append 5 1 1 (some (Addr.mk b0_ 0 none)) 0 0 (.slice x.1.1 x.1.2.1 x.1.2.2) fun a1_ n2_ c3_ =>
 M.pure (.slice a1_ n2_ c3_))

theorem e129 (X : XT) (L : LoopI) (x : (SL) × Unit) : evBody CC { call := X, loop := L } 129 (shsInj [(.cell .slice)] x) = f129 X L x := by kernel_rfl

/-- hayrick/summary.Cap -/
def f130 (X : XT) (L : LoopI) (x : (Int) × Unit) : M Value :=
 M.callS (.one (.cell .bool)) (X (.call 149 [(.int .i64 x.1)])) fun (r0_ : Bool) =>
 M.ite (!r0_)
 (M.pure (.int .i64 0))
 (M.callS (.one (.cell (.int .i64))) (X (.call 144 [(.int .i64 x.1)])) fun (r3_ : Int) =>
 M.pure (.int .i64 (subW .i64 (mulW .i64 4 x.1) r3_)))

theorem e130 (X : XT) (L : LoopI) (x : (Int) × Unit) : evBody CC { call := X, loop := L } 130 (shsInj [(.cell (.int .i64))] x) = f130 X L x := by kernel_rfl

/-- hayrick/hayrickref14.Sum -/
def f132 (X : XT) (L : LoopI) (x : (Int) × Unit) : M Value :=
 M.join (fun (j0_ : (Bool) × Unit) =>
 M.ite j0_.1
 (M.pure (.int .i64 0))
 (M.guard (!(decide (15 = 0)))
 (let v3_ : Int := IntKind.i64.wrap (((mulW .i64 4 x.1) : Int).tdiv 15)
 M.join (fun (j4_ : (Int) × Unit) =>
 M.pure (.int .i64 j4_.1)) fun go5_ =>
 M.guard (!(decide (15 = 0)))
 (M.ite (ltB 0 (((mulW .i64 4 x.1) : Int).tmod 15))
 (go5_ ((addW .i64 v3_ 1), ()))
 (go5_ (v3_, ())))))) fun go1_ =>
 M.ite (ltB x.1 1)
 (go1_ (true, ()))
 (go1_ ((ltB 254 x.1), ()))

theorem e132 (X : XT) (L : LoopI) (x : (Int) × Unit) : evBody CC { call := X, loop := L } 132 (shsInj [(.cell (.int .i64))] x) = f132 X L x := by kernel_rfl

/-- hayrick/hayrickref11.num -/
def f135c0 (X : XT) (L : LoopI) (x : (SL) × (Int) × (Int) × (Int) × Unit) (v1_ : Int) : M (Value) :=
 M.bind (L (σ := (Int) × (Int) × Unit) (ρ := (Unit) ⊕ (Unit)) (fun s2_ =>
 M.ite (leB x.2.1 s2_.2.1)
 (M.guard (!(decide (256 = 0)))
 (M.guard (inB s2_.2.1 x.1.2.1)
 (M.deref x.1.1 fun a6_ =>
 M.store (a6_.add ((Int.toNat s2_.2.1) * 1)) [(.int .u8 (wrapW .u8 ((s2_.1 : Int).tmod 256)))]
 (M.guard (!(decide (256 = 0)))
 (M.pure (.inl ((IntKind.u64.wrap ((s2_.1 : Int).tdiv 256)), (subW .i64 s2_.2.1 1), ())))))))
 (M.pure (.inr (.inl (()))))) (x.2.2.2.1, v1_, ())) <| M.sum (fun (j9_ : Unit) =>
 M.pure (.tuple ⟨[]⟩)) (fun _ => M.stuck)
def f135 (X : XT) (L : LoopI) (x : (SL) × (Int) × (Int) × (Int) × Unit) : M Value :=
 f135c0 X L x (subW .i64 (addW .i64 x.2.1 x.2.2.1) 1)

theorem e135 (X : XT) (L : LoopI) (x : (SL) × (Int) × (Int) × (Int) × Unit) : evBody CC { call := X, loop := L } 135 (shsInj [(.cell .slice), (.cell (.int .i64)), (.cell (.int .i64)), (.cell (.int .u64))] x) = f135 X L x := by kernel_rfl

/-- hayrick/hayrickref10.Runes -/
def f136c0 (X : XT) (L : LoopI) (x : (ByteArray) × Unit) (s0_ : (SL) × (Int) × Unit) (v2_ : Bool) : M (((SL) × (Int) × Unit) ⊕ (((SL) × Unit) ⊕ (Unit))) :=
 M.ite v2_
 (M.guard (upB s0_.2.1 x.1.size)
 (M.callS (.tuple [(.cell (.int .i32)), (.cell (.int .i64)), (.cell .bool)]) (X (.call 40 [(.string (x.1.extract (Int.toNat s0_.2.1) x.1.size))])) fun (r5_ : (Int) × (Int) × (Bool) × Unit) =>
 M.new (.cells (Row.ofList [(.int .i32 r5_.1)]) 21 false (0, 0) false) fun b6_ =>
 M.append 21 1 4 s0_.1.1 s0_.1.2.1 s0_.1.2.2 (.slice (some (Addr.mk b6_ 0 none)) 1 1) fun a7_ n8_ c9_ =>
 M.pure (.inl ((a7_, n8_, c9_), (addW .i64 s0_.2.1 r5_.2.1), ()))))
 (M.pure (.inr (.inl (s0_.1, ()))))
def f136 (X : XT) (L : LoopI) (x : (ByteArray) × Unit) : M Value :=
 M.bind (L (σ := (SL) × (Int) × Unit) (ρ := ((SL) × Unit) ⊕ (Unit)) (fun s0_ =>
 f136c0 X L x s0_ (ltB s0_.2.1 ((x.1.size : Nat) : Int))) ((none, 0, 0), 0, ())) <| M.sum (fun (j11_ : (SL) × Unit) =>
 M.pure (.slice j11_.1.1 j11_.1.2.1 j11_.1.2.2)) (fun _ => M.stuck)

theorem e136 (X : XT) (L : LoopI) (x : (ByteArray) × Unit) : evBody CC { call := X, loop := L } 136 (shsInj [(.cell .string)] x) = f136 X L x := by kernel_rfl

end
end Go.Proofs.YtidadbppnmnfmaaGreatDoor.pa
