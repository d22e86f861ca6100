/-
 What the functions come to, part 0: each text, and that the reading gives it.
-/
import Derived.Test.YtlcigkdflbfdgaaGreatDoorSgH
import Derived.KernelRfl
set_option linter.unusedVariables false
namespace Go.Proofs.YtlcigkdflbfdgaaGreatDoor.sg
open Go Go.Eng
noncomputable section
/-- hayrick/hayricklaw30.ShellRows -/
def f4c0 (X : XT) (L : LoopI) (r0_ : (ByteArray) × (Int) × Unit) (r2_ : (ByteArray) × (Int) × Unit) (r3_ : (SL) × (Int) × (Int) × Unit) (r4_ : (SL) × (Int) × (Int) × Unit) (go6_ : ((Bool) × Unit) → M (Value)) : M (Value) :=
 M.ite (eqB r0_.2.1 r2_.2.1)
 (M.callS (.one (.cell .slice)) (X (.call 14 [(.slice r3_.1.1 r3_.1.2.1 r3_.1.2.2)])) fun (r9_ : SL) =>
 M.callS (.one (.cell .bool)) (X (.call 17 [(.slice r9_.1 r9_.2.1 r9_.2.2), (.slice r4_.1.1 r4_.1.2.1 r4_.1.2.2)])) fun (r10_ : Bool) =>
 M.ite r10_
 (M.ite (eqB r3_.2.1 r4_.2.1)
 (M.ite (eqB r3_.2.2.1 r4_.2.2.1)
 (M.callS (.one (.cell .bool)) (X (.call 11 [])) fun (r13_ : Bool) =>
 go6_ (r13_, ()))
 (go6_ (false, ())))
 (go6_ (false, ())))
 (go6_ (false, ())))
 (go6_ (false, ()))
def f4c1 (X : XT) (L : LoopI) (x : (SL) × (ByteArray) × Unit) (r0_ : (ByteArray) × (Int) × Unit) (r1_ : SL) : M (Value) :=
 M.callS (.tuple [(.cell .string), (.cell (.int .i64))]) (X (.call 13 [(.slice r1_.1 r1_.2.1 r1_.2.2)])) fun (r2_ : (ByteArray) × (Int) × Unit) =>
 M.callS (.tuple [(.cell .slice), (.cell (.int .i64)), (.cell (.int .i64))]) (X (.call 15 [(.string x.2.1)])) fun (r3_ : (SL) × (Int) × (Int) × Unit) =>
 M.callS (.tuple [(.cell .slice), (.cell (.int .i64)), (.cell (.int .i64))]) (X (.call 16 [(.string x.2.1)])) fun (r4_ : (SL) × (Int) × (Int) × Unit) =>
 M.join (fun (j5_ : (Bool) × Unit) =>
 M.pure (.bool j5_.1)) fun go6_ =>
 M.ite (seq r0_.1 r2_.1)
 (f4c0 X L r0_ r2_ r3_ r4_ go6_)
 (go6_ (false, ()))
def f4 (X : XT) (L : LoopI) (x : (SL) × (ByteArray) × Unit) : M Value :=
 M.callS (.tuple [(.cell .string), (.cell (.int .i64))]) (X (.call 12 [(.slice x.1.1 x.1.2.1 x.1.2.2)])) fun (r0_ : (ByteArray) × (Int) × Unit) =>
 M.callS (.one (.cell .slice)) (X (.call 14 [(.slice x.1.1 x.1.2.1 x.1.2.2)])) fun (r1_ : SL) =>
 f4c1 X L x r0_ r1_

theorem e4 (X : XT) (L : LoopI) (x : (SL) × (ByteArray) × Unit) : evBody CC { call := X, loop := L } 4 (shsInj [(.cell .slice), (.cell .string)] x) = f4 X L x := by kernel_rfl

/-- hayrick/shell.Text -/
def f5 (X : XT) (L : LoopI) (x : (SL) × Unit) : M Value :=
 M.callS (.tuple [(.cell .string), (.cell (.int .i64))]) (X (.call 18 [(.slice x.1.1 x.1.2.1 x.1.2.2), (.func (.func 19) ⟨[]⟩ ⟨[]⟩)])) fun (r0_ : (ByteArray) × (Int) × Unit) =>
 M.pure (.tuple ⟨[(.string r0_.1), (.int .i64 r0_.2.1)]⟩)

theorem e5 (X : XT) (L : LoopI) (x : (SL) × Unit) : evBody CC { call := X, loop := L } 5 (shsInj [(.cell .slice)] x) = f5 X L x := by kernel_rfl

/-- hayrick/shell.Parse -/
def f8 (X : XT) (L : LoopI) (x : (ByteArray) × Unit) : M Value :=
 M.callS (.tuple [(.cell .slice), (.cell (.int .i64)), (.cell (.int .i64))]) (X (.call 21 [(.string x.1), (.func (.func 22) ⟨[]⟩ ⟨[]⟩)])) fun (r0_ : (SL) × (Int) × (Int) × Unit) =>
 M.pure (.tuple ⟨[(.slice r0_.1.1 r0_.1.2.1 r0_.1.2.2), (.int .i64 r0_.2.1), (.int .i64 r0_.2.2.1)]⟩)

theorem e8 (X : XT) (L : LoopI) (x : (ByteArray) × Unit) : evBody CC { call := X, loop := L } 8 (shsInj [(.cell .string)] x) = f8 X L x := by kernel_rfl

/-- hayrick/hayricklaw30.wakes -/
def f11c0 (X : XT) (L : LoopI) (r7_ : (ByteArray) × (Int) × Unit) (r8_ : (SL) × (Int) × (Int) × Unit) (r9_ : (SL) × (Int) × (Int) × Unit) (go11_ : ((Bool) × Unit) → M (Value)) : M (Value) :=
 M.ite (eqB r7_.2.1 0)
 (M.ite (seq r7_.1 st12)
 (M.ite (eqB r8_.2.2.1 0)
 (M.ite (eqB r8_.2.1 0)
 (M.ite (eqB ((r8_.1.2.1 : Nat) : Int) 2)
 (M.guard (inB 0 r8_.1.2.1)
 (M.deref r8_.1.1 fun a25_ =>
 M.load (.cell (.int .i64)) 1 ((a25_.add ((Int.toNat 0) * 6)).add 3) fun (x26_ : Int) =>
 M.ite (eqB x26_ (-1))
 (M.ite (eqB r9_.2.1 1)
 (go11_ ((eqB r9_.2.2.1 5), ()))
 (go11_ (false, ())))
 (go11_ (false, ()))))
 (go11_ (false, ())))
 (go11_ (false, ())))
 (go11_ (false, ())))
 (go11_ (false, ())))
 (go11_ (false, ()))
def f11c1 (X : XT) (L : LoopI) (r0_ : (ByteArray) × (ByteArray) × (Bool) × Unit) (r1_ : (ByteArray) × (ByteArray) × (Bool) × Unit) (r4_ : (ByteArray) × (Int) × Unit) (r7_ : (ByteArray) × (Int) × Unit) (r8_ : (SL) × (Int) × (Int) × Unit) : M (Value) :=
 M.callS (.tuple [(.cell .slice), (.cell (.int .i64)), (.cell (.int .i64))]) (X (.call 8 [(.string st6)])) fun (r9_ : (SL) × (Int) × (Int) × Unit) =>
 M.join (fun (j10_ : (Bool) × Unit) =>
 M.pure (.bool j10_.1)) fun go11_ =>
 M.callS (.one (.cell .string)) (X (.call 26 [(.string st7)])) fun (r12_ : ByteArray) =>
 M.ite (seq r12_ st8)
 (M.ite (seq r0_.1 st9)
 (M.ite (seq r0_.2.1 st10)
 (M.ite r0_.2.2.1
 (M.ite (!r1_.2.2.1)
 (M.ite (eqB r4_.2.1 0)
 (M.ite (seq r4_.1 st11)
 (f11c0 X L r7_ r8_ r9_ go11_)
 (go11_ (false, ())))
 (go11_ (false, ())))
 (go11_ (false, ())))
 (go11_ (false, ())))
 (go11_ (false, ())))
 (go11_ (false, ())))
 (go11_ (false, ()))
def f11c2 (X : XT) (L : LoopI) (r0_ : (ByteArray) × (ByteArray) × (Bool) × Unit) (r1_ : (ByteArray) × (ByteArray) × (Bool) × Unit) (r4_ : (ByteArray) × (Int) × Unit) (b5_ : Nat) : M (Value) :=
 M.new (.cells (Row.ofList [(.int .i64 10), (.int .i64 0), (.bool false), (.slice none 0 0), (.int .i64 2), (.int .i64 1), (.int .i64 203), (.int .i64 1), (.slice none 0 0), (.int .i64 1), (.int .i64 33), (.bool false), (.slice none 0 0), (.int .i64 0), (.int .i64 0), (.int .i64 0), (.int .i64 0), (.slice none 0 0), (.int .i64 11), (.int .i64 0), (.bool false), (.slice none 0 0), (.int .i64 0), (.int .i64 0), (.int .i64 0), (.int .i64 0), (.slice (some (Addr.mk b5_ 0 none)) 1 1)]) 69 false (0, 0) false) fun b6_ =>
 M.callS (.tuple [(.cell .string), (.cell (.int .i64))]) (X (.call 12 [(.slice (some (Addr.mk b6_ 0 none)) 3 3)])) fun (r7_ : (ByteArray) × (Int) × Unit) =>
 M.callS (.tuple [(.cell .slice), (.cell (.int .i64)), (.cell (.int .i64))]) (X (.call 8 [(.string st5)])) fun (r8_ : (SL) × (Int) × (Int) × Unit) =>
 f11c1 X L r0_ r1_ r4_ r7_ r8_
def f11c3 (X : XT) (L : LoopI) (r0_ : (ByteArray) × (ByteArray) × (Bool) × Unit) (r1_ : (ByteArray) × (ByteArray) × (Bool) × Unit) : M (Value) :=
 M.new (.cells (Row.ofList [(.int .u8 104), (.int .u8 105)]) 5 false (0, 0) false) fun b2_ =>
 M.mark (Addr.mk b2_ 0 none)
 (M.new (.cells (Row.ofList [(.int .i64 8), (.string st3), (.string st0), (.int .i64 3), (.int .i64 0), (.slice (some (Addr.mk b2_ 0 none)) 2 2)]) 51 false (0, 0) false) fun b3_ =>
 M.callS (.tuple [(.cell .string), (.cell (.int .i64))]) (X (.call 5 [(.slice (some (Addr.mk b3_ 0 none)) 1 1)])) fun (r4_ : (ByteArray) × (Int) × Unit) =>
 M.new (.cells (Row.ofList [(.int .i64 2), (.string st4)]) 71 false (0, 0) false) fun b5_ =>
 f11c2 X L r0_ r1_ r4_ b5_)
def f11 (X : XT) (L : LoopI) (x : Unit) : M Value :=
 M.callS (.tuple [(.cell .string), (.cell .string), (.cell .bool)]) (X (.call 25 [(.string st1)])) fun (r0_ : (ByteArray) × (ByteArray) × (Bool) × Unit) =>
 M.callS (.tuple [(.cell .string), (.cell .string), (.cell .bool)]) (X (.call 25 [(.string st2)])) fun (r1_ : (ByteArray) × (ByteArray) × (Bool) × Unit) =>
 f11c3 X L r0_ r1_

theorem e11 (X : XT) (L : LoopI) (x : Unit) : evBody CC { call := X, loop := L } 11 (shsInj [] x) = f11 X L x := by kernel_rfl

/-- hayrick/shell.Rows -/
def f12 (X : XT) (L : LoopI) (x : (SL) × Unit) : M Value :=
 M.callS (.tuple [(.cell .string), (.cell (.int .i64))]) (X (.call 27 [(.slice x.1.1 x.1.2.1 x.1.2.2), (.func (.func 28) ⟨[]⟩ ⟨[]⟩)])) fun (r0_ : (ByteArray) × (Int) × Unit) =>
 M.pure (.tuple ⟨[(.string r0_.1), (.int .i64 r0_.2.1)]⟩)

theorem e12 (X : XT) (L : LoopI) (x : (SL) × Unit) : evBody CC { call := X, loop := L } 12 (shsInj [(.cell .slice)] x) = f12 X L x := by kernel_rfl

/-- hayrick/hayrickref30.Rows -/
def f13c0 (X : XT) (L : LoopI) (s0_ : (SL) × (Int) × Unit) (x4_ : Int × Int × Bool × SL × Int × Int × Int × Int × SL × Unit) : M (((SL) × (Int) × Unit) ⊕ (((SL) × Unit) ⊕ (((ByteArray) × (Int) × Unit) ⊕ (Unit)))) :=
 M.callS (.tuple [(.cell .string), (.cell .bool)]) (X (.call 29 [(.agg ⟨[(.int .i64 x4_.1), (.int .i64 x4_.2.1), (.bool x4_.2.2.1), (.slice x4_.2.2.2.1.1 x4_.2.2.2.1.2.1 x4_.2.2.2.1.2.2), (.int .i64 x4_.2.2.2.2.1), (.int .i64 x4_.2.2.2.2.2.1), (.int .i64 x4_.2.2.2.2.2.2.1), (.int .i64 x4_.2.2.2.2.2.2.2.1), (.slice x4_.2.2.2.2.2.2.2.2.1.1 x4_.2.2.2.2.2.2.2.2.1.2.1 x4_.2.2.2.2.2.2.2.2.1.2.2)]⟩)])) fun (r5_ : (ByteArray) × (Bool) × Unit) =>
 M.ite (!r5_.2.1)
 (M.pure (.inr (.inr (.inl (st0, 1, ())))))
 (M.append 5 1 1 s0_.1.1 s0_.1.2.1 s0_.1.2.2 (.string r5_.1) fun a7_ n8_ c9_ =>
 M.new (.cells (Row.ofList [(.int .u8 10)]) 5 false (0, 0) false) fun b10_ =>
 M.append 5 1 1 a7_ n8_ c9_ (.slice (some (Addr.mk b10_ 0 none)) 1 1) fun a11_ n12_ c13_ =>
 M.pure (.inl ((a11_, n12_, c13_), (addW .i64 s0_.2.1 1), ())))
def f13c1 (X : XT) (L : LoopI) (x : (SL) × Unit) : M (Value) :=
 M.bind (L (σ := (SL) × (Int) × Unit) (ρ := ((SL) × Unit) ⊕ (((ByteArray) × (Int) × Unit) ⊕ (Unit))) (fun s0_ =>
 M.ite (ltB s0_.2.1 ((x.1.2.1 : Nat) : Int))
 (M.guard (inB s0_.2.1 x.1.2.1)
 (M.deref x.1.1 fun a3_ =>
 M.load (.agg [(.int .i64), (.int .i64), .bool, .slice, (.int .i64), (.int .i64), (.int .i64), (.int .i64), .slice]) 9 (a3_.add ((Int.toNat s0_.2.1) * 9)) fun (x4_ : Int × Int × Bool × SL × Int × Int × Int × Int × SL × Unit) =>
 f13c0 X L s0_ x4_))
 (M.pure (.inr (.inl (s0_.1, ()))))) ((none, 0, 0), 0, ())) <| M.sum (fun (j15_ : (SL) × Unit) =>
 M.ite (ltB 65536 ((j15_.1.2.1 : Nat) : Int))
 (M.pure (.tuple ⟨[(.string st0), (.int .i64 3)]⟩))
 (M.toStr j15_.1.1 j15_.1.2.1 fun s18_ =>
 M.pure (.tuple ⟨[(.string s18_), (.int .i64 0)]⟩))) (M.sum (fun (j19_ : (ByteArray) × (Int) × Unit) =>
 M.pure (.tuple ⟨[(.string j19_.1), (.int .i64 j19_.2.1)]⟩)) (fun _ => M.stuck))
def f13 (X : XT) (L : LoopI) (x : (SL) × Unit) : M Value :=
 f13c1 X L x

theorem e13 (X : XT) (L : LoopI) (x : (SL) × Unit) : evBody CC { call := X, loop := L } 13 (shsInj [(.cell .slice)] x) = f13 X L x := by kernel_rfl

/-- hayrick/hayricklaw30.told -/
def f14c0 (X : XT) (L : LoopI) (s0_ : (SL) × (Int) × Unit) (b5_ : Nat) (x6_ : Int) (x7_ : Int) (x8_ : Bool) (x9_ : SL) (x10_ : Int × Int × Int × Int × Unit) : M (((SL) × (Int) × Unit) ⊕ (((SL) × Unit) ⊕ (Unit))) :=
 M.load (.cell .slice) 1 ((Addr.mk b5_ 0 none).add 8) fun (x11_ : SL) =>
 M.new (.cells (Row.ofList [(.int .i64 x6_), (.int .i64 x7_), (.bool x8_), (.slice x9_.1 x9_.2.1 x9_.2.2), (.int .i64 x10_.1), (.int .i64 x10_.2.1), (.int .i64 x10_.2.2.1), (.int .i64 x10_.2.2.2.1), (.slice x11_.1 x11_.2.1 x11_.2.2)]) 77 false (0, 0) false) fun b12_ =>
 M.append 77 9 104 s0_.1.1 s0_.1.2.1 s0_.1.2.2 (.slice (some (Addr.mk b12_ 0 none)) 1 1) fun a13_ n14_ c15_ =>
 M.pure (.inl ((a13_, n14_, c15_), (addW .i64 s0_.2.1 1), ()))
def f14c1 (X : XT) (L : LoopI) (s0_ : (SL) × (Int) × Unit) (x4_ : Int × Int × Bool × SL × Int × Int × Int × Int × SL × Unit) (b5_ : Nat) : M (((SL) × (Int) × Unit) ⊕ (((SL) × Unit) ⊕ (Unit))) :=
 M.store (Addr.mk b5_ 0 none) [(.int .i64 x4_.1), (.int .i64 x4_.2.1), (.bool x4_.2.2.1), (.slice x4_.2.2.2.1.1 x4_.2.2.2.1.2.1 x4_.2.2.2.1.2.2), (.int .i64 x4_.2.2.2.2.1), (.int .i64 x4_.2.2.2.2.2.1), (.int .i64 x4_.2.2.2.2.2.2.1), (.int .i64 x4_.2.2.2.2.2.2.2.1), (.slice x4_.2.2.2.2.2.2.2.2.1.1 x4_.2.2.2.2.2.2.2.2.1.2.1 x4_.2.2.2.2.2.2.2.2.1.2.2)]
 (M.load (.cell (.int .i64)) 1 ((Addr.mk b5_ 0 none).add 0) fun (x6_ : Int) =>
 M.load (.cell (.int .i64)) 1 ((Addr.mk b5_ 0 none).add 1) fun (x7_ : Int) =>
 M.load (.cell .bool) 1 ((Addr.mk b5_ 0 none).add 2) fun (x8_ : Bool) =>
 M.load (.cell .slice) 1 ((Addr.mk b5_ 0 none).add 3) fun (x9_ : SL) =>
 M.load (.agg [(.int .i64), (.int .i64), (.int .i64), (.int .i64)]) 4 ((Addr.mk b5_ 0 none).add 4) fun (x10_ : Int × Int × Int × Int × Unit) =>
 f14c0 X L s0_ b5_ x6_ x7_ x8_ x9_ x10_)
def f14c2 (X : XT) (L : LoopI) (x : (SL) × Unit) (s0_ : (SL) × (Int) × Unit) : M (((SL) × (Int) × Unit) ⊕ (((SL) × Unit) ⊕ (Unit))) :=
 M.guard (inB s0_.2.1 x.1.2.1)
 (M.deref x.1.1 fun a3_ =>
 M.load (.agg [(.int .i64), (.int .i64), .bool, .slice, (.int .i64), (.int .i64), (.int .i64), (.int .i64), .slice]) 9 (a3_.add ((Int.toNat s0_.2.1) * 9)) fun (x4_ : Int × Int × Bool × SL × Int × Int × Int × Int × SL × Unit) =>
 M.new (.cells (Row.ofList [(.int .i64 0), (.int .i64 0), (.bool false), (.slice none 0 0), (.int .i64 0), (.int .i64 0), (.int .i64 0), (.int .i64 0), (.slice none 0 0)]) 69 false (0, 0) false) fun b5_ =>
 f14c1 X L s0_ x4_ b5_)
def f14 (X : XT) (L : LoopI) (x : (SL) × Unit) : M Value :=
 M.bind (L (σ := (SL) × (Int) × Unit) (ρ := ((SL) × Unit) ⊕ (Unit)) (fun s0_ =>
 M.ite (ltB s0_.2.1 ((x.1.2.1 : Nat) : Int))
 (f14c2 X L x s0_)
 (M.pure (.inr (.inl (s0_.1, ()))))) ((none, 0, 0), 0, ())) <| M.sum (fun (j17_ : (SL) × Unit) =>
 M.pure (.slice j17_.1.1 j17_.1.2.1 j17_.1.2.2)) (fun _ => M.stuck)

theorem e14 (X : XT) (L : LoopI) (x : (SL) × Unit) : evBody CC { call := X, loop := L } 14 (shsInj [(.cell .slice)] x) = f14 X L x := by kernel_rfl

/-- hayrick/shell.ParseRows -/
def f15 (X : XT) (L : LoopI) (x : (ByteArray) × Unit) : M Value :=
 M.callS (.tuple [(.cell .slice), (.cell (.int .i64)), (.cell (.int .i64))]) (X (.call 30 [(.string x.1), (.func (.func 31) ⟨[]⟩ ⟨[]⟩)])) fun (r0_ : (SL) × (Int) × (Int) × Unit) =>
 M.pure (.tuple ⟨[(.slice r0_.1.1 r0_.1.2.1 r0_.1.2.2), (.int .i64 r0_.2.1), (.int .i64 r0_.2.2.1)]⟩)

theorem e15 (X : XT) (L : LoopI) (x : (ByteArray) × Unit) : evBody CC { call := X, loop := L } 15 (shsInj [(.cell .string)] x) = f15 X L x := by kernel_rfl

/-- hayrick/hayrickref30.ParseRows -/
def f16c0 (X : XT) (L : LoopI) (s3_ : (SL) × (Int) × Unit) (x13_ : Int × Int × Bool × SL × Int × Int × Int × Int × SL × Unit) : M (((SL) × (Int) × Unit) ⊕ (((SL) × Unit) ⊕ (((SL) × (Int) × (Int) × Unit) ⊕ (Unit)))) :=
 M.new (.cells (Row.ofList [(.int .i64 x13_.1), (.int .i64 x13_.2.1), (.bool x13_.2.2.1), (.slice x13_.2.2.2.1.1 x13_.2.2.2.1.2.1 x13_.2.2.2.1.2.2), (.int .i64 x13_.2.2.2.2.1), (.int .i64 x13_.2.2.2.2.2.1), (.int .i64 x13_.2.2.2.2.2.2.1), (.int .i64 x13_.2.2.2.2.2.2.2.1), (.slice x13_.2.2.2.2.2.2.2.2.1.1 x13_.2.2.2.2.2.2.2.2.1.2.1 x13_.2.2.2.2.2.2.2.2.1.2.2)]) 77 false (0, 0) false) fun b14_ =>
 M.append 77 9 104 s3_.1.1 s3_.1.2.1 s3_.1.2.2 (.slice (some (Addr.mk b14_ 0 none)) 1 1) fun a15_ n16_ c17_ =>
 M.pure (.inl ((a15_, n16_, c17_), (addW .i64 s3_.2.1 1), ()))
def f16c1 (X : XT) (L : LoopI) (r2_ : (SL) × (Bool) × Unit) (s3_ : (SL) × (Int) × Unit) (r8_ : (Int × Int × Bool × SL × Int × Int × Int × Int × SL × Unit) × (Bool) × Unit) (b9_ : Nat) : M (((SL) × (Int) × Unit) ⊕ (((SL) × Unit) ⊕ (((SL) × (Int) × (Int) × Unit) ⊕ (Unit)))) :=
 M.join (fun (j10_ : (Bool) × Unit) =>
 M.ite j10_.1
 (M.pure (.inr (.inr (.inl ((none, 0, 0), (addW .i64 s3_.2.1 1), 5, ())))))
 (M.load (.agg [(.int .i64), (.int .i64), .bool, .slice, (.int .i64), (.int .i64), (.int .i64), (.int .i64), .slice]) 9 (Addr.mk b9_ 0 none) fun (x13_ : Int × Int × Bool × SL × Int × Int × Int × Int × SL × Unit) =>
 f16c0 X L s3_ x13_)) fun go11_ =>
 M.ite (!r8_.2.1)
 (go11_ (true, ()))
 (M.ite (!r2_.2.1)
 (go11_ ((eqB s3_.2.1 (subW .i64 ((r2_.1.2.1 : Nat) : Int) 1)), ()))
 (go11_ (false, ())))
def f16c2 (X : XT) (L : LoopI) (r2_ : (SL) × (Bool) × Unit) (s3_ : (SL) × (Int) × Unit) (r8_ : (Int × Int × Bool × SL × Int × Int × Int × Int × SL × Unit) × (Bool) × Unit) : M (((SL) × (Int) × Unit) ⊕ (((SL) × Unit) ⊕ (((SL) × (Int) × (Int) × Unit) ⊕ (Unit)))) :=
 M.new (.cells (Row.ofList [(.int .i64 0), (.int .i64 0), (.bool false), (.slice none 0 0), (.int .i64 0), (.int .i64 0), (.int .i64 0), (.int .i64 0), (.slice none 0 0)]) 77 false (0, 0) false) fun b9_ =>
 M.store (Addr.mk b9_ 0 none) [(.int .i64 r8_.1.1), (.int .i64 r8_.1.2.1), (.bool r8_.1.2.2.1), (.slice r8_.1.2.2.2.1.1 r8_.1.2.2.2.1.2.1 r8_.1.2.2.2.1.2.2), (.int .i64 r8_.1.2.2.2.2.1), (.int .i64 r8_.1.2.2.2.2.2.1), (.int .i64 r8_.1.2.2.2.2.2.2.1), (.int .i64 r8_.1.2.2.2.2.2.2.2.1), (.slice r8_.1.2.2.2.2.2.2.2.2.1.1 r8_.1.2.2.2.2.2.2.2.2.1.2.1 r8_.1.2.2.2.2.2.2.2.2.1.2.2)]
 (f16c1 X L r2_ s3_ r8_ b9_)
def f16c3 (X : XT) (L : LoopI) (r2_ : (SL) × (Bool) × Unit) (s3_ : (SL) × (Int) × Unit) : M (((SL) × (Int) × Unit) ⊕ (((SL) × Unit) ⊕ (((SL) × (Int) × (Int) × Unit) ⊕ (Unit)))) :=
 M.ite (ltB s3_.2.1 ((r2_.1.2.1 : Nat) : Int))
 (M.guard (inB s3_.2.1 r2_.1.2.1)
 (M.deref r2_.1.1 fun a6_ =>
 M.load (.cell .string) 1 (a6_.add ((Int.toNat s3_.2.1) * 1)) fun (x7_ : ByteArray) =>
 M.callS (.tuple [(.agg [(.int .i64), (.int .i64), .bool, .slice, (.int .i64), (.int .i64), (.int .i64), (.int .i64), .slice]), (.cell .bool)]) (X (.call 32 [(.string x7_)])) fun (r8_ : (Int × Int × Bool × SL × Int × Int × Int × Int × SL × Unit) × (Bool) × Unit) =>
 f16c2 X L r2_ s3_ r8_))
 (M.pure (.inr (.inl (s3_.1, ()))))
def f16c4 (X : XT) (L : LoopI) (x : (ByteArray) × Unit) : M (Value) :=
 M.callS (.tuple [(.cell .slice), (.cell .bool)]) (X (.call 23 [(.string x.1)])) fun (r2_ : (SL) × (Bool) × Unit) =>
 M.bind (L (σ := (SL) × (Int) × Unit) (ρ := ((SL) × Unit) ⊕ (((SL) × (Int) × (Int) × Unit) ⊕ (Unit))) (fun s3_ =>
 f16c3 X L r2_ s3_) ((none, 0, 0), 0, ())) <| M.sum (fun (j24_ : (SL) × Unit) =>
 M.pure (.tuple ⟨[(.slice j24_.1.1 j24_.1.2.1 j24_.1.2.2), (.int .i64 0), (.int .i64 0)]⟩)) (M.sum (fun (j25_ : (SL) × (Int) × (Int) × Unit) =>
 M.pure (.tuple ⟨[(.slice j25_.1.1 j25_.1.2.1 j25_.1.2.2), (.int .i64 j25_.2.1), (.int .i64 j25_.2.2.1)]⟩)) (fun _ => M.stuck))
def f16 (X : XT) (L : LoopI) (x : (ByteArray) × Unit) : M Value :=
 M.ite (ltB 65536 ((x.1.size : Nat) : Int))
 (M.pure (.tuple ⟨[(.slice none 0 0), (.int .i64 0), (.int .i64 3)]⟩))
 (f16c4 X L x)

theorem e16 (X : XT) (L : LoopI) (x : (ByteArray) × Unit) : evBody CC { call := X, loop := L } 16 (shsInj [(.cell .string)] x) = f16 X L x := by kernel_rfl

/-- hayrick/hayricklaw30.rows -/
def f17c0 (X : XT) (L : LoopI) (b10_ : Nat) (b11_ : Nat) (go14_ : ((Bool) × Unit) → M (((Int) × Unit) ⊕ ((Unit) ⊕ (((Bool) × Unit) ⊕ (Unit))))) (x30_ : Int × Int × Int × Int × Unit) (x31_ : Int × Int × Int × Int × Unit) : M (((Int) × Unit) ⊕ ((Unit) ⊕ (((Bool) × Unit) ⊕ (Unit)))) :=
 aEql PP 66 false false (.agg ⟨[(.int .i64 x30_.1), (.int .i64 x30_.2.1), (.int .i64 x30_.2.2.1), (.int .i64 x30_.2.2.2.1)]⟩) (.agg ⟨[(.int .i64 x31_.1), (.int .i64 x31_.2.1), (.int .i64 x31_.2.2.1), (.int .i64 x31_.2.2.2.1)]⟩) fun (q32_ : Bool) =>
 M.ite (!q32_)
 (go14_ (true, ()))
 (M.load (.cell .slice) 1 ((Addr.mk b10_ 0 none).add 8) fun (x34_ : SL) =>
 M.load (.cell .slice) 1 ((Addr.mk b11_ 0 none).add 8) fun (x35_ : SL) =>
 M.callS (.one (.cell .bool)) (X (.call 33 [(.slice x34_.1 x34_.2.1 x34_.2.2), (.slice x35_.1 x35_.2.1 x35_.2.2)])) fun (r36_ : Bool) =>
 go14_ ((!r36_), ()))
def f17c1 (X : XT) (L : LoopI) (b10_ : Nat) (b11_ : Nat) (go14_ : ((Bool) × Unit) → M (((Int) × Unit) ⊕ ((Unit) ⊕ (((Bool) × Unit) ⊕ (Unit))))) (x25_ : SL) : M (((Int) × Unit) ⊕ ((Unit) ⊕ (((Bool) × Unit) ⊕ (Unit)))) :=
 M.toStr x25_.1 x25_.2.1 fun s26_ =>
 M.load (.cell .slice) 1 ((Addr.mk b11_ 0 none).add 3) fun (x27_ : SL) =>
 M.toStr x27_.1 x27_.2.1 fun s28_ =>
 M.ite (!(seq s26_ s28_))
 (go14_ (true, ()))
 (M.load (.agg [(.int .i64), (.int .i64), (.int .i64), (.int .i64)]) 4 ((Addr.mk b10_ 0 none).add 4) fun (x30_ : Int × Int × Int × Int × Unit) =>
 M.load (.agg [(.int .i64), (.int .i64), (.int .i64), (.int .i64)]) 4 ((Addr.mk b11_ 0 none).add 4) fun (x31_ : Int × Int × Int × Int × Unit) =>
 f17c0 X L b10_ b11_ go14_ x30_ x31_)
def f17c2 (X : XT) (L : LoopI) (b10_ : Nat) (b11_ : Nat) (go14_ : ((Bool) × Unit) → M (((Int) × Unit) ⊕ ((Unit) ⊕ (((Bool) × Unit) ⊕ (Unit))))) (v18_ : Bool) : M (((Int) × Unit) ⊕ ((Unit) ⊕ (((Bool) × Unit) ⊕ (Unit)))) :=
 M.ite v18_
 (go14_ (true, ()))
 (M.load (.cell (.int .i64)) 1 ((Addr.mk b10_ 0 none).add 1) fun (x19_ : Int) =>
 M.load (.cell (.int .i64)) 1 ((Addr.mk b11_ 0 none).add 1) fun (x20_ : Int) =>
 M.ite (!(eqB x19_ x20_))
 (go14_ (true, ()))
 (M.load (.cell .bool) 1 ((Addr.mk b10_ 0 none).add 2) fun (x22_ : Bool) =>
 M.load (.cell .bool) 1 ((Addr.mk b11_ 0 none).add 2) fun (x23_ : Bool) =>
 M.ite (!(x22_ == x23_))
 (go14_ (true, ()))
 (M.load (.cell .slice) 1 ((Addr.mk b10_ 0 none).add 3) fun (x25_ : SL) =>
 f17c1 X L b10_ b11_ go14_ x25_)))
def f17c3 (X : XT) (L : LoopI) (s3_ : (Int) × Unit) (a8_ : Addr) (x9_ : Int × Int × Bool × SL × Int × Int × Int × Int × SL × Unit) (b10_ : Nat) (b11_ : Nat) : M (((Int) × Unit) ⊕ ((Unit) ⊕ (((Bool) × Unit) ⊕ (Unit)))) :=
 M.load (.agg [(.int .i64), (.int .i64), .bool, .slice, (.int .i64), (.int .i64), (.int .i64), (.int .i64), .slice]) 9 (a8_.add ((Int.toNat s3_.1) * 9)) fun (x12_ : Int × Int × Bool × SL × Int × Int × Int × Int × SL × Unit) => cond (veqv (.agg ⟨[(.int .i64 x12_.1), (.int .i64 x12_.2.1), (.bool x12_.2.2.1), (.slice x12_.2.2.2.1.1 x12_.2.2.2.1.2.1 x12_.2.2.2.1.2.2), (.int .i64 x12_.2.2.2.2.1), (.int .i64 x12_.2.2.2.2.2.1), (.int .i64 x12_.2.2.2.2.2.2.1), (.int .i64 x12_.2.2.2.2.2.2.2.1), (.slice x12_.2.2.2.2.2.2.2.2.1.1 x12_.2.2.2.2.2.2.2.2.1.2.1 x12_.2.2.2.2.2.2.2.2.1.2.2)]⟩) (.agg ⟨[(.int .i64 x9_.1), (.int .i64 x9_.2.1), (.bool x9_.2.2.1), (.slice x9_.2.2.2.1.1 x9_.2.2.2.1.2.1 x9_.2.2.2.1.2.2), (.int .i64 x9_.2.2.2.2.1), (.int .i64 x9_.2.2.2.2.2.1), (.int .i64 x9_.2.2.2.2.2.2.1), (.int .i64 x9_.2.2.2.2.2.2.2.1), (.slice x9_.2.2.2.2.2.2.2.2.1.1 x9_.2.2.2.2.2.2.2.2.1.2.1 x9_.2.2.2.2.2.2.2.2.1.2.2)]⟩)) (M.store (Addr.mk b11_ 0 none) [(.int .i64 x9_.1), (.int .i64 x9_.2.1), (.bool x9_.2.2.1), (.slice x9_.2.2.2.1.1 x9_.2.2.2.1.2.1 x9_.2.2.2.1.2.2), (.int .i64 x9_.2.2.2.2.1), (.int .i64 x9_.2.2.2.2.2.1), (.int .i64 x9_.2.2.2.2.2.2.1), (.int .i64 x9_.2.2.2.2.2.2.2.1), (.slice x9_.2.2.2.2.2.2.2.2.1.1 x9_.2.2.2.2.2.2.2.2.1.2.1 x9_.2.2.2.2.2.2.2.2.1.2.2)]
 (M.join (fun (j13_ : (Bool) × Unit) =>
 M.ite j13_.1
 (M.pure (.inr (.inr (.inl (false, ())))))
 (M.pure (.inl ((addW .i64 s3_.1 1), ())))) fun go14_ =>
 M.load (.cell (.int .i64)) 1 ((Addr.mk b10_ 0 none).add 0) fun (x16_ : Int) =>
 M.load (.cell (.int .i64)) 1 ((Addr.mk b11_ 0 none).add 0) fun (x17_ : Int) =>
 f17c2 X L b10_ b11_ go14_ (!(eqB x16_ x17_)))) M.stuck
def f17c4 (X : XT) (L : LoopI) (s3_ : (Int) × Unit) (x7_ : Int × Int × Bool × SL × Int × Int × Int × Int × SL × Unit) (a8_ : Addr) (x9_ : Int × Int × Bool × SL × Int × Int × Int × Int × SL × Unit) (b10_ : Nat) : M (((Int) × Unit) ⊕ ((Unit) ⊕ (((Bool) × Unit) ⊕ (Unit)))) :=
 M.new (.cells (Row.ofList [(.int .i64 0), (.int .i64 0), (.bool false), (.slice none 0 0), (.int .i64 0), (.int .i64 0), (.int .i64 0), (.int .i64 0), (.slice none 0 0)]) 77 false (0, 0) false) fun b11_ =>
 M.store (Addr.mk b10_ 0 none) [(.int .i64 x7_.1), (.int .i64 x7_.2.1), (.bool x7_.2.2.1), (.slice x7_.2.2.2.1.1 x7_.2.2.2.1.2.1 x7_.2.2.2.1.2.2), (.int .i64 x7_.2.2.2.2.1), (.int .i64 x7_.2.2.2.2.2.1), (.int .i64 x7_.2.2.2.2.2.2.1), (.int .i64 x7_.2.2.2.2.2.2.2.1), (.slice x7_.2.2.2.2.2.2.2.2.1.1 x7_.2.2.2.2.2.2.2.2.1.2.1 x7_.2.2.2.2.2.2.2.2.1.2.2)]
 (f17c3 X L s3_ a8_ x9_ b10_ b11_)
def f17c5 (X : XT) (L : LoopI) (x : (SL) × (SL) × Unit) (s3_ : (Int) × Unit) (x7_ : Int × Int × Bool × SL × Int × Int × Int × Int × SL × Unit) : M (((Int) × Unit) ⊕ ((Unit) ⊕ (((Bool) × Unit) ⊕ (Unit)))) :=
 M.guard (inB s3_.1 x.2.1.2.1)
 (M.deref x.2.1.1 fun a8_ =>
 M.load (.agg [(.int .i64), (.int .i64), .bool, .slice, (.int .i64), (.int .i64), (.int .i64), (.int .i64), .slice]) 9 (a8_.add ((Int.toNat s3_.1) * 9)) fun (x9_ : Int × Int × Bool × SL × Int × Int × Int × Int × SL × Unit) =>
 M.new (.cells (Row.ofList [(.int .i64 0), (.int .i64 0), (.bool false), (.slice none 0 0), (.int .i64 0), (.int .i64 0), (.int .i64 0), (.int .i64 0), (.slice none 0 0)]) 77 false (0, 0) false) fun b10_ =>
 f17c4 X L s3_ x7_ a8_ x9_ b10_)
def f17c6 (X : XT) (L : LoopI) (x : (SL) × (SL) × Unit) : M (Value) :=
 M.bind (L (σ := (Int) × Unit) (ρ := (Unit) ⊕ (((Bool) × Unit) ⊕ (Unit))) (fun s3_ =>
 M.ite (ltB s3_.1 ((x.1.2.1 : Nat) : Int))
 (M.guard (inB s3_.1 x.1.2.1)
 (M.deref x.1.1 fun a6_ =>
 M.load (.agg [(.int .i64), (.int .i64), .bool, .slice, (.int .i64), (.int .i64), (.int .i64), (.int .i64), .slice]) 9 (a6_.add ((Int.toNat s3_.1) * 9)) fun (x7_ : Int × Int × Bool × SL × Int × Int × Int × Int × SL × Unit) =>
 f17c5 X L x s3_ x7_))
 (M.pure (.inr (.inl (()))))) (0, ())) <| M.sum (fun (j38_ : Unit) =>
 M.pure (.bool true)) (M.sum (fun (j39_ : (Bool) × Unit) =>
 M.pure (.bool j39_.1)) (fun _ => M.stuck))
def f17 (X : XT) (L : LoopI) (x : (SL) × (SL) × Unit) : M Value :=
 M.ite (!(eqB ((x.1.2.1 : Nat) : Int) ((x.2.1.2.1 : Nat) : Int)))
 (M.pure (.bool false))
 (f17c6 X L x)

theorem e17 (X : XT) (L : LoopI) (x : (SL) × (SL) × Unit) : evBody CC { call := X, loop := L } 17 (shsInj [(.cell .slice), (.cell .slice)] x) = f17 X L x := by kernel_rfl

/-- hayrick/shell.written[hayrick/world.Event] -/
def f18c0 (X : XT) (L : LoopI) (x : (SL) × (Value) × Unit) (b0_ : Nat) (s2_ : (Int) × Unit) (x7_ : Int × ByteArray × ByteArray × Int × Int × SL × Unit) : M (((Int) × Unit) ⊕ ((Unit) ⊕ (((ByteArray) × (Int) × Unit) ⊕ (Unit)))) :=
 callV CC ⟨X, L⟩ x.2.1 [(.agg ⟨[(.int .i64 x7_.1), (.string x7_.2.1), (.string x7_.2.2.1), (.int .i64 x7_.2.2.2.1), (.int .i64 x7_.2.2.2.2.1), (.slice x7_.2.2.2.2.2.1.1 x7_.2.2.2.2.2.1.2.1 x7_.2.2.2.2.2.1.2.2)]⟩)] fun w9_ => M.need (RSh.prj (.tuple [(.cell .string), (.cell .bool)]) w9_) fun (r8_ : (ByteArray) × (Bool) × Unit) =>
 M.ite (!r8_.2.1)
 (M.pure (.inr (.inr (.inl (st0, 1, ())))))
 (M.guard (Nat.ble (r8_.1.size + st13.size) 9223372036854775807)
 (M.callS (.tuple [(.cell (.int .i64)), (.cell .val)]) (X (.call 34 [(.pointer (some (Addr.mk b0_ 0 none))), (.string (r8_.1 ++ st13))])) fun (r12_ : (Int) × (Value) × Unit) =>
 M.pure (.inl ((addW .i64 s2_.1 1), ()))))
def f18c1 (X : XT) (L : LoopI) (x : (SL) × (Value) × Unit) (b0_ : Nat) (s2_ : (Int) × Unit) (x5_ : Int × ByteArray × ByteArray × Int × Int × SL × Unit) : M (((Int) × Unit) ⊕ ((Unit) ⊕ (((ByteArray) × (Int) × Unit) ⊕ (Unit)))) :=
 M.new (.cells (Row.ofList [(.int .i64 0), (.string st0), (.string st0), (.int .i64 0), (.int .i64 0), (.slice none 0 0)]) 51 false (0, 0) false) fun b6_ =>
 M.store (Addr.mk b6_ 0 none) [(.int .i64 x5_.1), (.string x5_.2.1), (.string x5_.2.2.1), (.int .i64 x5_.2.2.2.1), (.int .i64 x5_.2.2.2.2.1), (.slice x5_.2.2.2.2.2.1.1 x5_.2.2.2.2.2.1.2.1 x5_.2.2.2.2.2.1.2.2)]
 (M.load (.agg [(.int .i64), .string, .string, (.int .i64), (.int .i64), .slice]) 6 (Addr.mk b6_ 0 none) fun (x7_ : Int × ByteArray × ByteArray × Int × Int × SL × Unit) =>
 f18c0 X L x b0_ s2_ x7_)
def f18c2 (X : XT) (L : LoopI) (x : (SL) × (Value) × Unit) (b0_ : Nat) (v1_ : Int) : M (Value) :=
 M.bind (L (σ := (Int) × Unit) (ρ := (Unit) ⊕ (((ByteArray) × (Int) × Unit) ⊕ (Unit))) (fun s2_ =>
 M.ite (ltB s2_.1 v1_)
 (M.guard (inB s2_.1 x.1.2.1)
 (M.deref x.1.1 fun a4_ =>
 M.load (.agg [(.int .i64), .string, .string, (.int .i64), (.int .i64), .slice]) 6 (a4_.add ((Int.toNat s2_.1) * 6)) fun (x5_ : Int × ByteArray × ByteArray × Int × Int × SL × Unit) =>
 f18c1 X L x b0_ s2_ x5_))
 (M.pure (.inr (.inl (()))))) (0, ())) <| M.sum (fun (j14_ : Unit) =>
 M.callS (.one (.cell (.int .i64))) (X (.call 35 [(.pointer (some (Addr.mk b0_ 0 none)))])) fun (r15_ : Int) =>
 M.ite (ltB 65536 r15_)
 (M.pure (.tuple ⟨[(.string st0), (.int .i64 3)]⟩))
 (M.callS (.one (.cell .string)) (X (.call 36 [(.pointer (some (Addr.mk b0_ 0 none)))])) fun (r17_ : ByteArray) =>
 M.pure (.tuple ⟨[(.string r17_), (.int .i64 0)]⟩))) (M.sum (fun (j18_ : (ByteArray) × (Int) × Unit) =>
 M.pure (.tuple ⟨[(.string j18_.1), (.int .i64 j18_.2.1)]⟩)) (fun _ => M.stuck))
def f18 (X : XT) (L : LoopI) (x : (SL) × (Value) × Unit) : M Value :=
 M.new (.cells (Row.ofList [(.pointer none), (.slice none 0 0)]) 85 false (0, 0) false) fun b0_ =>
 f18c2 X L x b0_ ((x.1.2.1 : Nat) : Int)

theorem e18 (X : XT) (L : LoopI) (x : (SL) × (Value) × Unit) : evBody CC { call := X, loop := L } 18 (shsInj [(.cell .slice), (.cell .val)] x) = f18 X L x := by kernel_rfl

/-- hayrick/shell.line -/
def f19c0 (X : XT) (L : LoopI) (b3_ : Nat) (b8_ : Nat) (x29_ : Bool) (s31_ : ByteArray) : M (Value) :=
 M.load (.cell .bool) 1 ((Addr.mk b3_ 0 none).add 4) fun (x32_ : Bool) => cond (veqv (.bool x32_) (.bool x29_)) (M.callS (.one (.cell .string)) (X (.call 26 [(.string s31_)])) fun (r33_ : ByteArray) =>
 M.load (.cell .bool) 1 ((Addr.mk b3_ 0 none).add 4) fun (x34_ : Bool) => cond (veqv (.bool x34_) (.bool x29_)) (M.callS (.tuple []) (X (.call 39 [(.bool x29_), (.string r33_), (.pointer (some (Addr.mk b8_ 0 none)))])) fun (r35_ : Unit) =>
 M.load (.cell .string) 1 (Addr.mk b8_ 0 none) fun (x36_ : ByteArray) =>
 M.pure (.tuple ⟨[(.string x36_), (.bool true)]⟩)) M.stuck) M.stuck
def f19c1 (X : XT) (L : LoopI) (b0_ : Nat) (b3_ : Nat) (b8_ : Nat) (x24_ : Bool) (x25_ : Int) : M (Value) :=
 M.callS (.one (.cell .string)) (X (.call 40 [(.int .i64 x25_)])) fun (r26_ : ByteArray) =>
 M.load (.cell .bool) 1 ((Addr.mk b3_ 0 none).add 3) fun (x27_ : Bool) => cond (veqv (.bool x27_) (.bool x24_)) (M.callS (.tuple []) (X (.call 39 [(.bool x24_), (.string r26_), (.pointer (some (Addr.mk b8_ 0 none)))])) fun (r28_ : Unit) =>
 M.load (.cell .bool) 1 ((Addr.mk b3_ 0 none).add 4) fun (x29_ : Bool) =>
 M.load (.cell .slice) 1 ((Addr.mk b0_ 0 none).add 5) fun (x30_ : SL) =>
 M.toStr x30_.1 x30_.2.1 fun s31_ =>
 f19c0 X L b3_ b8_ x29_ s31_) M.stuck
def f19c2 (X : XT) (L : LoopI) (b0_ : Nat) (b3_ : Nat) (b8_ : Nat) (x19_ : Bool) (x20_ : Int) : M (Value) :=
 M.callS (.one (.cell .string)) (X (.call 40 [(.int .i64 x20_)])) fun (r21_ : ByteArray) =>
 M.load (.cell .bool) 1 ((Addr.mk b3_ 0 none).add 2) fun (x22_ : Bool) => cond (veqv (.bool x22_) (.bool x19_)) (M.callS (.tuple []) (X (.call 39 [(.bool x19_), (.string r21_), (.pointer (some (Addr.mk b8_ 0 none)))])) fun (r23_ : Unit) =>
 M.load (.cell .bool) 1 ((Addr.mk b3_ 0 none).add 3) fun (x24_ : Bool) =>
 M.load (.cell (.int .i64)) 1 ((Addr.mk b0_ 0 none).add 4) fun (x25_ : Int) =>
 f19c1 X L b0_ b3_ b8_ x24_ x25_) M.stuck
def f19c3 (X : XT) (L : LoopI) (b0_ : Nat) (b3_ : Nat) (b8_ : Nat) (x14_ : Bool) (x15_ : ByteArray) : M (Value) :=
 M.callS (.one (.cell .string)) (X (.call 26 [(.string x15_)])) fun (r16_ : ByteArray) =>
 M.load (.cell .bool) 1 ((Addr.mk b3_ 0 none).add 1) fun (x17_ : Bool) => cond (veqv (.bool x17_) (.bool x14_)) (M.callS (.tuple []) (X (.call 39 [(.bool x14_), (.string r16_), (.pointer (some (Addr.mk b8_ 0 none)))])) fun (r18_ : Unit) =>
 M.load (.cell .bool) 1 ((Addr.mk b3_ 0 none).add 2) fun (x19_ : Bool) =>
 M.load (.cell (.int .i64)) 1 ((Addr.mk b0_ 0 none).add 3) fun (x20_ : Int) =>
 f19c2 X L b0_ b3_ b8_ x19_ x20_) M.stuck
def f19c4 (X : XT) (L : LoopI) (b0_ : Nat) (b3_ : Nat) (b8_ : Nat) (x9_ : Bool) (x10_ : ByteArray) : M (Value) :=
 M.callS (.one (.cell .string)) (X (.call 26 [(.string x10_)])) fun (r11_ : ByteArray) =>
 M.load (.cell .bool) 1 ((Addr.mk b3_ 0 none).add 0) fun (x12_ : Bool) => cond (veqv (.bool x12_) (.bool x9_)) (M.callS (.tuple []) (X (.call 39 [(.bool x9_), (.string r11_), (.pointer (some (Addr.mk b8_ 0 none)))])) fun (r13_ : Unit) =>
 M.load (.cell .bool) 1 ((Addr.mk b3_ 0 none).add 1) fun (x14_ : Bool) =>
 M.load (.cell .string) 1 ((Addr.mk b0_ 0 none).add 2) fun (x15_ : ByteArray) =>
 f19c3 X L b0_ b3_ b8_ x14_ x15_) M.stuck
def f19c5 (X : XT) (L : LoopI) (b0_ : Nat) (b3_ : Nat) (j4_ : (Bool) × Unit) : M (Value) :=
 M.ite j4_.1
 (M.pure (.tuple ⟨[(.string st0), (.bool false)]⟩))
 (M.load (.cell (.int .i64)) 1 ((Addr.mk b0_ 0 none).add 0) fun (x6_ : Int) =>
 M.callS (.one (.cell .string)) (X (.call 38 [(.int .i64 x6_)])) fun (r7_ : ByteArray) =>
 M.new (.cells (Row.ofList [(.string st0)]) 9 false (0, 0) false) fun b8_ =>
 M.store (Addr.mk b8_ 0 none) [(.string r7_)]
 (M.load (.cell .bool) 1 ((Addr.mk b3_ 0 none).add 0) fun (x9_ : Bool) =>
 M.load (.cell .string) 1 ((Addr.mk b0_ 0 none).add 1) fun (x10_ : ByteArray) =>
 f19c4 X L b0_ b3_ b8_ x9_ x10_))
def f19c6 (X : XT) (L : LoopI) (b0_ : Nat) (b3_ : Nat) (go5_ : ((Bool) × Unit) → M (Value)) (v53_ : Bool) : M (Value) :=
 M.ite v53_
 (M.load (.cell (.int .i64)) 1 ((Addr.mk b0_ 0 none).add 4) fun (x54_ : Int) =>
 M.ite (!(eqB x54_ 0))
 (go5_ (true, ()))
 (M.load (.cell .bool) 1 ((Addr.mk b3_ 0 none).add 4) fun (x56_ : Bool) =>
 M.ite (!x56_)
 (M.load (.cell .slice) 1 ((Addr.mk b0_ 0 none).add 5) fun (x58_ : SL) =>
 go5_ ((ltB 0 ((x58_.2.1 : Nat) : Int)), ()))
 (go5_ (false, ()))))
 (M.load (.cell .bool) 1 ((Addr.mk b3_ 0 none).add 4) fun (x61_ : Bool) =>
 M.ite (!x61_)
 (M.load (.cell .slice) 1 ((Addr.mk b0_ 0 none).add 5) fun (x63_ : SL) =>
 go5_ ((ltB 0 ((x63_.2.1 : Nat) : Int)), ()))
 (go5_ (false, ())))
def f19c7 (X : XT) (L : LoopI) (b0_ : Nat) (b3_ : Nat) (go5_ : ((Bool) × Unit) → M (Value)) (v67_ : Bool) : M (Value) :=
 M.ite v67_
 (M.load (.cell (.int .i64)) 1 ((Addr.mk b0_ 0 none).add 4) fun (x68_ : Int) =>
 M.ite (!(eqB x68_ 0))
 (go5_ (true, ()))
 (M.load (.cell .bool) 1 ((Addr.mk b3_ 0 none).add 4) fun (x70_ : Bool) =>
 M.ite (!x70_)
 (M.load (.cell .slice) 1 ((Addr.mk b0_ 0 none).add 5) fun (x72_ : SL) =>
 go5_ ((ltB 0 ((x72_.2.1 : Nat) : Int)), ()))
 (go5_ (false, ()))))
 (M.load (.cell .bool) 1 ((Addr.mk b3_ 0 none).add 4) fun (x75_ : Bool) =>
 M.ite (!x75_)
 (M.load (.cell .slice) 1 ((Addr.mk b0_ 0 none).add 5) fun (x77_ : SL) =>
 go5_ ((ltB 0 ((x77_.2.1 : Nat) : Int)), ()))
 (go5_ (false, ())))
def f19c8 (X : XT) (L : LoopI) (b0_ : Nat) (b3_ : Nat) (go5_ : ((Bool) × Unit) → M (Value)) : M (Value) :=
 M.load (.cell .string) 1 ((Addr.mk b0_ 0 none).add 2) fun (x46_ : ByteArray) =>
 M.ite (!(seq x46_ st0))
 (go5_ (true, ()))
 (M.load (.cell .bool) 1 ((Addr.mk b3_ 0 none).add 2) fun (x48_ : Bool) =>
 M.ite (!x48_)
 (M.load (.cell (.int .i64)) 1 ((Addr.mk b0_ 0 none).add 3) fun (x50_ : Int) =>
 M.ite (!(eqB x50_ 0))
 (go5_ (true, ()))
 (M.load (.cell .bool) 1 ((Addr.mk b3_ 0 none).add 3) fun (x52_ : Bool) =>
 f19c6 X L b0_ b3_ go5_ (!x52_)))
 (M.load (.cell .bool) 1 ((Addr.mk b3_ 0 none).add 3) fun (x66_ : Bool) =>
 f19c7 X L b0_ b3_ go5_ (!x66_)))
def f19c9 (X : XT) (L : LoopI) (b0_ : Nat) (b3_ : Nat) (go5_ : ((Bool) × Unit) → M (Value)) (v85_ : Bool) : M (Value) :=
 M.ite v85_
 (M.load (.cell (.int .i64)) 1 ((Addr.mk b0_ 0 none).add 4) fun (x86_ : Int) =>
 M.ite (!(eqB x86_ 0))
 (go5_ (true, ()))
 (M.load (.cell .bool) 1 ((Addr.mk b3_ 0 none).add 4) fun (x88_ : Bool) =>
 M.ite (!x88_)
 (M.load (.cell .slice) 1 ((Addr.mk b0_ 0 none).add 5) fun (x90_ : SL) =>
 go5_ ((ltB 0 ((x90_.2.1 : Nat) : Int)), ()))
 (go5_ (false, ()))))
 (M.load (.cell .bool) 1 ((Addr.mk b3_ 0 none).add 4) fun (x93_ : Bool) =>
 M.ite (!x93_)
 (M.load (.cell .slice) 1 ((Addr.mk b0_ 0 none).add 5) fun (x95_ : SL) =>
 go5_ ((ltB 0 ((x95_.2.1 : Nat) : Int)), ()))
 (go5_ (false, ())))
def f19c10 (X : XT) (L : LoopI) (b0_ : Nat) (b3_ : Nat) (go5_ : ((Bool) × Unit) → M (Value)) (v99_ : Bool) : M (Value) :=
 M.ite v99_
 (M.load (.cell (.int .i64)) 1 ((Addr.mk b0_ 0 none).add 4) fun (x100_ : Int) =>
 M.ite (!(eqB x100_ 0))
 (go5_ (true, ()))
 (M.load (.cell .bool) 1 ((Addr.mk b3_ 0 none).add 4) fun (x102_ : Bool) =>
 M.ite (!x102_)
 (M.load (.cell .slice) 1 ((Addr.mk b0_ 0 none).add 5) fun (x104_ : SL) =>
 go5_ ((ltB 0 ((x104_.2.1 : Nat) : Int)), ()))
 (go5_ (false, ()))))
 (M.load (.cell .bool) 1 ((Addr.mk b3_ 0 none).add 4) fun (x107_ : Bool) =>
 M.ite (!x107_)
 (M.load (.cell .slice) 1 ((Addr.mk b0_ 0 none).add 5) fun (x109_ : SL) =>
 go5_ ((ltB 0 ((x109_.2.1 : Nat) : Int)), ()))
 (go5_ (false, ())))
def f19c11 (X : XT) (L : LoopI) (b0_ : Nat) (b3_ : Nat) (go5_ : ((Bool) × Unit) → M (Value)) : M (Value) :=
 M.load (.cell .bool) 1 ((Addr.mk b3_ 0 none).add 1) fun (x44_ : Bool) =>
 M.ite (!x44_)
 (f19c8 X L b0_ b3_ go5_)
 (M.load (.cell .bool) 1 ((Addr.mk b3_ 0 none).add 2) fun (x80_ : Bool) =>
 M.ite (!x80_)
 (M.load (.cell (.int .i64)) 1 ((Addr.mk b0_ 0 none).add 3) fun (x82_ : Int) =>
 M.ite (!(eqB x82_ 0))
 (go5_ (true, ()))
 (M.load (.cell .bool) 1 ((Addr.mk b3_ 0 none).add 3) fun (x84_ : Bool) =>
 f19c9 X L b0_ b3_ go5_ (!x84_)))
 (M.load (.cell .bool) 1 ((Addr.mk b3_ 0 none).add 3) fun (x98_ : Bool) =>
 f19c10 X L b0_ b3_ go5_ (!x98_)))
def f19c12 (X : XT) (L : LoopI) (b0_ : Nat) (b3_ : Nat) (go5_ : ((Bool) × Unit) → M (Value)) (v121_ : Bool) : M (Value) :=
 M.ite v121_
 (M.load (.cell (.int .i64)) 1 ((Addr.mk b0_ 0 none).add 4) fun (x122_ : Int) =>
 M.ite (!(eqB x122_ 0))
 (go5_ (true, ()))
 (M.load (.cell .bool) 1 ((Addr.mk b3_ 0 none).add 4) fun (x124_ : Bool) =>
 M.ite (!x124_)
 (M.load (.cell .slice) 1 ((Addr.mk b0_ 0 none).add 5) fun (x126_ : SL) =>
 go5_ ((ltB 0 ((x126_.2.1 : Nat) : Int)), ()))
 (go5_ (false, ()))))
 (M.load (.cell .bool) 1 ((Addr.mk b3_ 0 none).add 4) fun (x129_ : Bool) =>
 M.ite (!x129_)
 (M.load (.cell .slice) 1 ((Addr.mk b0_ 0 none).add 5) fun (x131_ : SL) =>
 go5_ ((ltB 0 ((x131_.2.1 : Nat) : Int)), ()))
 (go5_ (false, ())))
def f19c13 (X : XT) (L : LoopI) (b0_ : Nat) (b3_ : Nat) (go5_ : ((Bool) × Unit) → M (Value)) (v135_ : Bool) : M (Value) :=
 M.ite v135_
 (M.load (.cell (.int .i64)) 1 ((Addr.mk b0_ 0 none).add 4) fun (x136_ : Int) =>
 M.ite (!(eqB x136_ 0))
 (go5_ (true, ()))
 (M.load (.cell .bool) 1 ((Addr.mk b3_ 0 none).add 4) fun (x138_ : Bool) =>
 M.ite (!x138_)
 (M.load (.cell .slice) 1 ((Addr.mk b0_ 0 none).add 5) fun (x140_ : SL) =>
 go5_ ((ltB 0 ((x140_.2.1 : Nat) : Int)), ()))
 (go5_ (false, ()))))
 (M.load (.cell .bool) 1 ((Addr.mk b3_ 0 none).add 4) fun (x143_ : Bool) =>
 M.ite (!x143_)
 (M.load (.cell .slice) 1 ((Addr.mk b0_ 0 none).add 5) fun (x145_ : SL) =>
 go5_ ((ltB 0 ((x145_.2.1 : Nat) : Int)), ()))
 (go5_ (false, ())))
def f19c14 (X : XT) (L : LoopI) (b0_ : Nat) (b3_ : Nat) (go5_ : ((Bool) × Unit) → M (Value)) : M (Value) :=
 M.load (.cell .string) 1 ((Addr.mk b0_ 0 none).add 2) fun (x114_ : ByteArray) =>
 M.ite (!(seq x114_ st0))
 (go5_ (true, ()))
 (M.load (.cell .bool) 1 ((Addr.mk b3_ 0 none).add 2) fun (x116_ : Bool) =>
 M.ite (!x116_)
 (M.load (.cell (.int .i64)) 1 ((Addr.mk b0_ 0 none).add 3) fun (x118_ : Int) =>
 M.ite (!(eqB x118_ 0))
 (go5_ (true, ()))
 (M.load (.cell .bool) 1 ((Addr.mk b3_ 0 none).add 3) fun (x120_ : Bool) =>
 f19c12 X L b0_ b3_ go5_ (!x120_)))
 (M.load (.cell .bool) 1 ((Addr.mk b3_ 0 none).add 3) fun (x134_ : Bool) =>
 f19c13 X L b0_ b3_ go5_ (!x134_)))
def f19c15 (X : XT) (L : LoopI) (b0_ : Nat) (b3_ : Nat) (go5_ : ((Bool) × Unit) → M (Value)) (v153_ : Bool) : M (Value) :=
 M.ite v153_
 (M.load (.cell (.int .i64)) 1 ((Addr.mk b0_ 0 none).add 4) fun (x154_ : Int) =>
 M.ite (!(eqB x154_ 0))
 (go5_ (true, ()))
 (M.load (.cell .bool) 1 ((Addr.mk b3_ 0 none).add 4) fun (x156_ : Bool) =>
 M.ite (!x156_)
 (M.load (.cell .slice) 1 ((Addr.mk b0_ 0 none).add 5) fun (x158_ : SL) =>
 go5_ ((ltB 0 ((x158_.2.1 : Nat) : Int)), ()))
 (go5_ (false, ()))))
 (M.load (.cell .bool) 1 ((Addr.mk b3_ 0 none).add 4) fun (x161_ : Bool) =>
 M.ite (!x161_)
 (M.load (.cell .slice) 1 ((Addr.mk b0_ 0 none).add 5) fun (x163_ : SL) =>
 go5_ ((ltB 0 ((x163_.2.1 : Nat) : Int)), ()))
 (go5_ (false, ())))
def f19c16 (X : XT) (L : LoopI) (b0_ : Nat) (b3_ : Nat) (go5_ : ((Bool) × Unit) → M (Value)) (v167_ : Bool) : M (Value) :=
 M.ite v167_
 (M.load (.cell (.int .i64)) 1 ((Addr.mk b0_ 0 none).add 4) fun (x168_ : Int) =>
 M.ite (!(eqB x168_ 0))
 (go5_ (true, ()))
 (M.load (.cell .bool) 1 ((Addr.mk b3_ 0 none).add 4) fun (x170_ : Bool) =>
 M.ite (!x170_)
 (M.load (.cell .slice) 1 ((Addr.mk b0_ 0 none).add 5) fun (x172_ : SL) =>
 go5_ ((ltB 0 ((x172_.2.1 : Nat) : Int)), ()))
 (go5_ (false, ()))))
 (M.load (.cell .bool) 1 ((Addr.mk b3_ 0 none).add 4) fun (x175_ : Bool) =>
 M.ite (!x175_)
 (M.load (.cell .slice) 1 ((Addr.mk b0_ 0 none).add 5) fun (x177_ : SL) =>
 go5_ ((ltB 0 ((x177_.2.1 : Nat) : Int)), ()))
 (go5_ (false, ())))
def f19c17 (X : XT) (L : LoopI) (b0_ : Nat) (b3_ : Nat) (go5_ : ((Bool) × Unit) → M (Value)) : M (Value) :=
 M.load (.cell .bool) 1 ((Addr.mk b3_ 0 none).add 1) fun (x112_ : Bool) =>
 M.ite (!x112_)
 (f19c14 X L b0_ b3_ go5_)
 (M.load (.cell .bool) 1 ((Addr.mk b3_ 0 none).add 2) fun (x148_ : Bool) =>
 M.ite (!x148_)
 (M.load (.cell (.int .i64)) 1 ((Addr.mk b0_ 0 none).add 3) fun (x150_ : Int) =>
 M.ite (!(eqB x150_ 0))
 (go5_ (true, ()))
 (M.load (.cell .bool) 1 ((Addr.mk b3_ 0 none).add 3) fun (x152_ : Bool) =>
 f19c15 X L b0_ b3_ go5_ (!x152_)))
 (M.load (.cell .bool) 1 ((Addr.mk b3_ 0 none).add 3) fun (x166_ : Bool) =>
 f19c16 X L b0_ b3_ go5_ (!x166_)))
def f19c18 (X : XT) (L : LoopI) (b0_ : Nat) (b3_ : Nat) : M (Value) :=
 M.join (fun (j4_ : (Bool) × Unit) =>
 f19c5 X L b0_ b3_ j4_) fun go5_ =>
 M.load (.cell (.int .i64)) 1 ((Addr.mk b0_ 0 none).add 0) fun (x37_ : Int) =>
 M.callS (.one (.cell .string)) (X (.call 38 [(.int .i64 x37_)])) fun (r38_ : ByteArray) =>
 M.ite (seq r38_ st0)
 (go5_ (true, ()))
 (M.load (.cell .bool) 1 ((Addr.mk b3_ 0 none).add 0) fun (x40_ : Bool) =>
 M.ite (!x40_)
 (M.load (.cell .string) 1 ((Addr.mk b0_ 0 none).add 1) fun (x42_ : ByteArray) =>
 M.ite (!(seq x42_ st0))
 (go5_ (true, ()))
 (f19c11 X L b0_ b3_ go5_))
 (f19c17 X L b0_ b3_ go5_))
def f19c19 (X : XT) (L : LoopI) (b0_ : Nat) : M (Value) :=
 M.load (.cell (.int .i64)) 1 ((Addr.mk b0_ 0 none).add 0) fun (x1_ : Int) =>
 M.callS (.one (.agg [.bool, .bool, .bool, .bool, .bool])) (X (.call 37 [(.int .i64 x1_)])) fun (r2_ : Bool × Bool × Bool × Bool × Bool × Unit) =>
 M.new (.cells (Row.ofList [(.bool false), (.bool false), (.bool false), (.bool false), (.bool false)]) 93 false (0, 0) false) fun b3_ =>
 M.store (Addr.mk b3_ 0 none) [(.bool r2_.1), (.bool r2_.2.1), (.bool r2_.2.2.1), (.bool r2_.2.2.2.1), (.bool r2_.2.2.2.2.1)]
 (f19c18 X L b0_ b3_)
def f19 (X : XT) (L : LoopI) (x : (Int × ByteArray × ByteArray × Int × Int × SL × Unit) × Unit) : M Value :=
 M.new (.cells (Row.ofList [(.int .i64 x.1.1), (.string x.1.2.1), (.string x.1.2.2.1), (.int .i64 x.1.2.2.2.1), (.int .i64 x.1.2.2.2.2.1), (.slice x.1.2.2.2.2.2.1.1 x.1.2.2.2.2.2.1.2.1 x.1.2.2.2.2.2.1.2.2)]) 51 false (0, 0) false) fun b0_ =>
 f19c19 X L b0_

theorem e19 (X : XT) (L : LoopI) (x : (Int × ByteArray × ByteArray × Int × Int × SL × Unit) × Unit) : evBody CC { call := X, loop := L } 19 (shsInj [(.agg [(.int .i64), .string, .string, (.int .i64), (.int .i64), .slice])] x) = f19 X L x := by kernel_rfl

/-- hayrick/shell.parsed[hayrick/world.Event] -/
def f21c0 (X : XT) (L : LoopI) (s2_ : (ByteArray) × (SL) × (Int) × Unit) (r4_ : (ByteArray) × (ByteArray) × (Bool) × Unit) (b7_ : Nat) : M (((ByteArray) × (SL) × (Int) × Unit) ⊕ (((SL) × Unit) ⊕ (((SL) × (Int) × (Int) × Unit) ⊕ (Unit)))) :=
 M.load (.agg [(.int .i64), .string, .string, (.int .i64), (.int .i64), .slice]) 6 (Addr.mk b7_ 0 none) fun (x10_ : Int × ByteArray × ByteArray × Int × Int × SL × Unit) =>
 M.new (.cells (Row.ofList [(.int .i64 x10_.1), (.string x10_.2.1), (.string x10_.2.2.1), (.int .i64 x10_.2.2.2.1), (.int .i64 x10_.2.2.2.2.1), (.slice x10_.2.2.2.2.2.1.1 x10_.2.2.2.2.2.1.2.1 x10_.2.2.2.2.2.1.2.2)]) 51 false (0, 0) false) fun b11_ =>
 M.append 51 6 80 s2_.2.1.1 s2_.2.1.2.1 s2_.2.1.2.2 (.slice (some (Addr.mk b11_ 0 none)) 1 1) fun a12_ n13_ c14_ =>
 M.pure (.inl (r4_.2.1, (a12_, n13_, c14_), (addW .i64 s2_.2.2.1 1), ()))
def f21c1 (X : XT) (L : LoopI) (s2_ : (ByteArray) × (SL) × (Int) × Unit) (r4_ : (ByteArray) × (ByteArray) × (Bool) × Unit) (r5_ : (Int × ByteArray × ByteArray × Int × Int × SL × Unit) × (Bool) × Unit) : M (((ByteArray) × (SL) × (Int) × Unit) ⊕ (((SL) × Unit) ⊕ (((SL) × (Int) × (Int) × Unit) ⊕ (Unit)))) :=
 M.new (.cells (Row.ofList [(.int .i64 0), (.string st0), (.string st0), (.int .i64 0), (.int .i64 0), (.slice none 0 0)]) 51 false (0, 0) false) fun b7_ =>
 M.store (Addr.mk b7_ 0 none) [(.int .i64 r5_.1.1), (.string r5_.1.2.1), (.string r5_.1.2.2.1), (.int .i64 r5_.1.2.2.2.1), (.int .i64 r5_.1.2.2.2.2.1), (.slice r5_.1.2.2.2.2.2.1.1 r5_.1.2.2.2.2.2.1.2.1 r5_.1.2.2.2.2.2.1.2.2)]
 (M.join (fun (j8_ : (Bool) × Unit) =>
 M.ite j8_.1
 (M.pure (.inr (.inr (.inl ((none, 0, 0), s2_.2.2.1, 5, ())))))
 (f21c0 X L s2_ r4_ b7_)) fun go9_ =>
 M.ite (!r4_.2.2.1)
 (go9_ (true, ()))
 (go9_ ((!r5_.2.1), ())))
def f21c2 (X : XT) (L : LoopI) (x : (ByteArray) × (Value) × Unit) (s2_ : (ByteArray) × (SL) × (Int) × Unit) : M (((ByteArray) × (SL) × (Int) × Unit) ⊕ (((SL) × Unit) ⊕ (((SL) × (Int) × (Int) × Unit) ⊕ (Unit)))) :=
 M.ite (!(seq s2_.1 st0))
 (M.callS (.tuple [(.cell .string), (.cell .string), (.cell .bool)]) (X (.call 45 [(.string s2_.1), (.string st13)])) fun (r4_ : (ByteArray) × (ByteArray) × (Bool) × Unit) =>
 callV CC ⟨X, L⟩ x.2.1 [(.string r4_.1)] fun w6_ => M.need (RSh.prj (.tuple [(.agg [(.int .i64), .string, .string, (.int .i64), (.int .i64), .slice]), (.cell .bool)]) w6_) fun (r5_ : (Int × ByteArray × ByteArray × Int × Int × SL × Unit) × (Bool) × Unit) =>
 f21c1 X L s2_ r4_ r5_)
 (M.pure (.inr (.inl (s2_.2.1, ()))))
def f21c3 (X : XT) (L : LoopI) (x : (ByteArray) × (Value) × Unit) (v1_ : Bool) : M (Value) :=
 M.ite v1_
 (M.pure (.tuple ⟨[(.slice none 0 0), (.int .i64 0), (.int .i64 3)]⟩))
 (M.bind (L (σ := (ByteArray) × (SL) × (Int) × Unit) (ρ := ((SL) × Unit) ⊕ (((SL) × (Int) × (Int) × Unit) ⊕ (Unit))) (fun s2_ =>
 f21c2 X L x s2_) (x.1, (none, 0, 0), 1, ())) <| M.sum (fun (j18_ : (SL) × Unit) =>
 M.pure (.tuple ⟨[(.slice j18_.1.1 j18_.1.2.1 j18_.1.2.2), (.int .i64 0), (.int .i64 0)]⟩)) (M.sum (fun (j19_ : (SL) × (Int) × (Int) × Unit) =>
 M.pure (.tuple ⟨[(.slice j19_.1.1 j19_.1.2.1 j19_.1.2.2), (.int .i64 j19_.2.1), (.int .i64 j19_.2.2.1)]⟩)) (fun _ => M.stuck)))
def f21 (X : XT) (L : LoopI) (x : (ByteArray) × (Value) × Unit) : M Value :=
 f21c3 X L x (ltB 65536 ((x.1.size : Nat) : Int))

theorem e21 (X : XT) (L : LoopI) (x : (ByteArray) × (Value) × Unit) : evBody CC { call := X, loop := L } 21 (shsInj [(.cell .string), (.cell .val)] x) = f21 X L x := by kernel_rfl

/-- hayrick/shell.event -/
def f22c0 (X : XT) (L : LoopI) (x : (ByteArray) × Unit) (b0_ : Nat) (r20_ : (ByteArray) × (Bool) × Unit) (go22_ : ((Bool) × Unit) → M (Value)) (x24_ : Int × ByteArray × ByteArray × Int × Int × SL × Unit) : M (Value) :=
 M.ite r20_.2.1
 (M.store (Addr.mk b0_ 0 none) [(.int .i64 x24_.1), (.string x24_.2.1), (.string x24_.2.2.1), (.int .i64 x24_.2.2.2.1), (.int .i64 x24_.2.2.2.2.1), (.slice x24_.2.2.2.2.2.1.1 x24_.2.2.2.2.2.1.2.1 x24_.2.2.2.2.2.1.2.2)]
 (go22_ ((seq r20_.1 x.1), ())))
 (M.store (Addr.mk b0_ 0 none) [(.int .i64 x24_.1), (.string x24_.2.1), (.string x24_.2.2.1), (.int .i64 x24_.2.2.2.1), (.int .i64 x24_.2.2.2.2.1), (.slice x24_.2.2.2.2.2.1.1 x24_.2.2.2.2.2.1.2.1 x24_.2.2.2.2.2.1.2.2)]
 (go22_ (false, ())))
def f22c1 (X : XT) (L : LoopI) (x : (ByteArray) × Unit) (b0_ : Nat) (b2_ : Nat) (r20_ : (ByteArray) × (Bool) × Unit) (go22_ : ((Bool) × Unit) → M (Value)) (x24_ : Int × ByteArray × ByteArray × Int × Int × SL × Unit) (v28_ : Bool) : M (Value) :=
 M.ite v28_
 (M.load (.cell .ptr) 1 (Addr.mk b2_ 0 none) fun (x29_ : PA) =>
 M.deref x29_ fun a30_ =>
 M.load (.cell .string) 1 (a30_.add 0) fun (x31_ : ByteArray) =>
 M.ite (seq x31_ st0)
 (f22c0 X L x b0_ r20_ go22_ x24_)
 (M.store (Addr.mk b0_ 0 none) [(.int .i64 x24_.1), (.string x24_.2.1), (.string x24_.2.2.1), (.int .i64 x24_.2.2.2.1), (.int .i64 x24_.2.2.2.2.1), (.slice x24_.2.2.2.2.2.1.1 x24_.2.2.2.2.2.1.2.1 x24_.2.2.2.2.2.1.2.2)]
 (go22_ (false, ()))))
 (M.store (Addr.mk b0_ 0 none) [(.int .i64 x24_.1), (.string x24_.2.1), (.string x24_.2.2.1), (.int .i64 x24_.2.2.2.1), (.int .i64 x24_.2.2.2.2.1), (.slice x24_.2.2.2.2.2.1.1 x24_.2.2.2.2.2.1.2.1 x24_.2.2.2.2.2.1.2.2)]
 (go22_ (false, ())))
def f22c2 (X : XT) (L : LoopI) (x : (ByteArray) × Unit) (b0_ : Nat) (b2_ : Nat) (b5_ : Nat) (r20_ : (ByteArray) × (Bool) × Unit) : M (Value) :=
 M.join (fun (j21_ : (Bool) × Unit) =>
 M.load (.agg [(.int .i64), .string, .string, (.int .i64), (.int .i64), .slice]) 6 (Addr.mk b0_ 0 none) fun (x23_ : Int × ByteArray × ByteArray × Int × Int × SL × Unit) =>
 M.pure (.tuple ⟨[(.agg ⟨[(.int .i64 x23_.1), (.string x23_.2.1), (.string x23_.2.2.1), (.int .i64 x23_.2.2.2.1), (.int .i64 x23_.2.2.2.2.1), (.slice x23_.2.2.2.2.2.1.1 x23_.2.2.2.2.2.1.2.1 x23_.2.2.2.2.2.1.2.2)]⟩), (.bool j21_.1)]⟩)) fun go22_ =>
 M.load (.agg [(.int .i64), .string, .string, (.int .i64), (.int .i64), .slice]) 6 (Addr.mk b5_ 0 none) fun (x24_ : Int × ByteArray × ByteArray × Int × Int × SL × Unit) =>
 M.load (.cell .ptr) 1 (Addr.mk b2_ 0 none) fun (x25_ : PA) =>
 M.deref x25_ fun a26_ =>
 M.load (.cell .bool) 1 (a26_.add 1) fun (x27_ : Bool) =>
 f22c1 X L x b0_ b2_ r20_ go22_ x24_ (!x27_)
def f22c3 (X : XT) (L : LoopI) (x : (ByteArray) × Unit) (b0_ : Nat) (b2_ : Nat) (b5_ : Nat) : M (Value) :=
 M.load (.agg [(.int .i64), .string, .string, (.int .i64), (.int .i64), .slice]) 6 (Addr.mk b5_ 0 none) fun (x19_ : Int × ByteArray × ByteArray × Int × Int × SL × Unit) =>
 M.callS (.tuple [(.cell .string), (.cell .bool)]) (X (.call 19 [(.agg ⟨[(.int .i64 x19_.1), (.string x19_.2.1), (.string x19_.2.2.1), (.int .i64 x19_.2.2.2.1), (.int .i64 x19_.2.2.2.2.1), (.slice x19_.2.2.2.2.2.1.1 x19_.2.2.2.2.2.1.2.1 x19_.2.2.2.2.2.1.2.2)]⟩)])) fun (r20_ : (ByteArray) × (Bool) × Unit) =>
 f22c2 X L x b0_ b2_ b5_ r20_
def f22c4 (X : XT) (L : LoopI) (x : (ByteArray) × Unit) (b0_ : Nat) (b2_ : Nat) (b5_ : Nat) (b8_ : Nat) (x15_ : Bool) : M (Value) :=
 M.callS (.tuple []) (X (.call 47 [(.bool x15_), (.func (.func 53) ⟨[]⟩ ⟨[(.pointer (some (Addr.mk b2_ 0 none))), (.pointer (some (Addr.mk b5_ 0 none)))]⟩), (.pointer (some (Addr.mk b2_ 0 none)))])) fun (r16_ : Unit) =>
 M.load (.cell .bool) 1 ((Addr.mk b8_ 0 none).add 4) fun (x17_ : Bool) =>
 M.callS (.tuple []) (X (.call 47 [(.bool x17_), (.func (.func 54) ⟨[]⟩ ⟨[(.pointer (some (Addr.mk b2_ 0 none))), (.pointer (some (Addr.mk b5_ 0 none)))]⟩), (.pointer (some (Addr.mk b2_ 0 none)))])) fun (r18_ : Unit) =>
 f22c3 X L x b0_ b2_ b5_
def f22c5 (X : XT) (L : LoopI) (x : (ByteArray) × Unit) (b0_ : Nat) (b2_ : Nat) (b5_ : Nat) (b8_ : Nat) (x11_ : Bool) : M (Value) :=
 M.callS (.tuple []) (X (.call 47 [(.bool x11_), (.func (.func 50) ⟨[]⟩ ⟨[(.pointer (some (Addr.mk b2_ 0 none))), (.pointer (some (Addr.mk b5_ 0 none)))]⟩), (.pointer (some (Addr.mk b2_ 0 none)))])) fun (r12_ : Unit) =>
 M.load (.cell .bool) 1 ((Addr.mk b8_ 0 none).add 2) fun (x13_ : Bool) =>
 M.callS (.tuple []) (X (.call 47 [(.bool x13_), (.func (.func 51) ⟨[]⟩ ⟨[(.pointer (some (Addr.mk b2_ 0 none))), (.pointer (some (Addr.mk b5_ 0 none)))]⟩), (.pointer (some (Addr.mk b2_ 0 none)))])) fun (r14_ : Unit) =>
 M.load (.cell .bool) 1 ((Addr.mk b8_ 0 none).add 3) fun (x15_ : Bool) =>
 f22c4 X L x b0_ b2_ b5_ b8_ x15_
def f22c6 (X : XT) (L : LoopI) (x : (ByteArray) × Unit) (b0_ : Nat) (b2_ : Nat) (b5_ : Nat) (r7_ : Bool × Bool × Bool × Bool × Bool × Unit) (b8_ : Nat) : M (Value) :=
 M.store (Addr.mk b8_ 0 none) [(.bool r7_.1), (.bool r7_.2.1), (.bool r7_.2.2.1), (.bool r7_.2.2.2.1), (.bool r7_.2.2.2.2.1)]
 (M.load (.cell .bool) 1 ((Addr.mk b8_ 0 none).add 0) fun (x9_ : Bool) =>
 M.callS (.tuple []) (X (.call 47 [(.bool x9_), (.func (.func 48) ⟨[]⟩ ⟨[(.pointer (some (Addr.mk b2_ 0 none))), (.pointer (some (Addr.mk b5_ 0 none)))]⟩), (.pointer (some (Addr.mk b2_ 0 none)))])) fun (r10_ : Unit) =>
 M.load (.cell .bool) 1 ((Addr.mk b8_ 0 none).add 1) fun (x11_ : Bool) =>
 f22c5 X L x b0_ b2_ b5_ b8_ x11_)
def f22c7 (X : XT) (L : LoopI) (x : (ByteArray) × Unit) (b0_ : Nat) (b2_ : Nat) (r4_ : Int) (b5_ : Nat) : M (Value) :=
 M.store (Addr.mk b5_ 0 none) [(.int .i64 r4_), (.string st0), (.string st0), (.int .i64 0), (.int .i64 0), (.slice none 0 0)]
 (M.load (.cell (.int .i64)) 1 ((Addr.mk b5_ 0 none).add 0) fun (x6_ : Int) =>
 M.callS (.one (.agg [.bool, .bool, .bool, .bool, .bool])) (X (.call 37 [(.int .i64 x6_)])) fun (r7_ : Bool × Bool × Bool × Bool × Bool × Unit) =>
 M.new (.cells (Row.ofList [(.bool false), (.bool false), (.bool false), (.bool false), (.bool false)]) 93 false (0, 0) false) fun b8_ =>
 f22c6 X L x b0_ b2_ b5_ r7_ b8_)
def f22c8 (X : XT) (L : LoopI) (x : (ByteArray) × Unit) (b0_ : Nat) : M (Value) :=
 M.new (.cells (Row.ofList [(.string x.1), (.bool false)]) 103 false (0, 0) false) fun b1_ =>
 M.new (.cells (Row.ofList [(.pointer none)]) 101 false (0, 0) false) fun b2_ =>
 M.store (Addr.mk b2_ 0 none) [(.pointer (some (Addr.mk b1_ 0 none)))]
 (M.load (.cell .ptr) 1 (Addr.mk b2_ 0 none) fun (x3_ : PA) =>
 M.callS (.one (.cell (.int .i64))) (X (.call 46 [(.pointer x3_)])) fun (r4_ : Int) =>
 M.new (.cells (Row.ofList [(.int .i64 0), (.string st0), (.string st0), (.int .i64 0), (.int .i64 0), (.slice none 0 0)]) 51 false (0, 0) false) fun b5_ =>
 f22c7 X L x b0_ b2_ r4_ b5_)
def f22 (X : XT) (L : LoopI) (x : (ByteArray) × Unit) : M Value :=
 M.new (.cells (Row.ofList [(.int .i64 0), (.string st0), (.string st0), (.int .i64 0), (.int .i64 0), (.slice none 0 0)]) 51 false (0, 0) false) fun b0_ =>
 f22c8 X L x b0_

theorem e22 (X : XT) (L : LoopI) (x : (ByteArray) × Unit) : evBody CC { call := X, loop := L } 22 (shsInj [(.cell .string)] x) = f22 X L x := by kernel_rfl

/-- hayrick/hayrickref30.lines -/
def f23c0 (X : XT) (L : LoopI) (x : (ByteArray) × Unit) (s0_ : (SL) × (Int) × (Int) × Unit) : M (((SL) × (Int) × (Int) × Unit) ⊕ (((SL) × (Int) × Unit) ⊕ (Unit))) :=
 M.join (fun (j3_ : (SL) × (Int) × Unit) =>
 M.pure (.inl (j3_.1, j3_.2.1, (addW .i64 s0_.2.2.1 1), ()))) fun go4_ =>
 M.guard (inB s0_.2.2.1 x.1.size)
 (M.ite (eqB (byteAt x.1 s0_.2.2.1) 10)
 (M.guard (upB s0_.2.2.1 x.1.size)
 (let v8_ : Nat := (Int.toNat s0_.2.2.1)
 M.guard (upB s0_.2.1 v8_)
 (M.new (.cells (Row.ofList [(.string (x.1.extract (Int.toNat s0_.2.1) v8_))]) 9 false (0, 0) false) fun b11_ =>
 M.append 9 1 16 s0_.1.1 s0_.1.2.1 s0_.1.2.2 (.slice (some (Addr.mk b11_ 0 none)) 1 1) fun a12_ n13_ c14_ =>
 go4_ ((a12_, n13_, c14_), (addW .i64 s0_.2.2.1 1), ()))))
 (go4_ (s0_.1, s0_.2.1, ())))
def f23c1 (X : XT) (L : LoopI) (x : (ByteArray) × Unit) : M (Value) :=
 M.bind (L (σ := (SL) × (Int) × (Int) × Unit) (ρ := ((SL) × (Int) × Unit) ⊕ (Unit)) (fun s0_ =>
 M.ite (ltB s0_.2.2.1 ((x.1.size : Nat) : Int))
 (f23c0 X L x s0_)
 (M.pure (.inr (.inl (s0_.1, s0_.2.1, ()))))) ((none, 0, 0), 0, 0, ())) <| M.sum (fun (j16_ : (SL) × (Int) × Unit) =>
 M.ite (ltB j16_.2.1 ((x.1.size : Nat) : Int))
 (M.guard (upB j16_.2.1 x.1.size)
 (M.new (.cells (Row.ofList [(.string (x.1.extract (Int.toNat j16_.2.1) x.1.size))]) 9 false (0, 0) false) fun b21_ =>
 M.append 9 1 16 j16_.1.1 j16_.1.2.1 j16_.1.2.2 (.slice (some (Addr.mk b21_ 0 none)) 1 1) fun a22_ n23_ c24_ =>
 M.pure (.tuple ⟨[(.slice a22_ n23_ c24_), (.bool false)]⟩)))
 (M.pure (.tuple ⟨[(.slice j16_.1.1 j16_.1.2.1 j16_.1.2.2), (.bool true)]⟩))) (fun _ => M.stuck)
def f23 (X : XT) (L : LoopI) (x : (ByteArray) × Unit) : M Value :=
 f23c1 X L x

theorem e23 (X : XT) (L : LoopI) (x : (ByteArray) × Unit) : evBody CC { call := X, loop := L } 23 (shsInj [(.cell .string)] x) = f23 X L x := by kernel_rfl

/-- hayrick/shell.Unquote -/
def f25c0 (X : XT) (L : LoopI) (s8_ : (SL) × (ByteArray) × Unit) (go11_ : ((SL) × (Int) × Unit) → M (((SL) × (ByteArray) × Unit) ⊕ (((SL) × Unit) ⊕ (((ByteArray) × (ByteArray) × (Bool) × Unit) ⊕ (Unit))))) (r18_ : Int) (r19_ : Int) : M (((SL) × (ByteArray) × Unit) ⊕ (((SL) × Unit) ⊕ (((ByteArray) × (ByteArray) × (Bool) × Unit) ⊕ (Unit)))) :=
 M.join (fun (j20_ : (Bool) × Unit) =>
 M.ite j20_.1
 (M.pure (.inr (.inr (.inl (st0, st0, false, ())))))
 (M.guard (decide (0 ≤ 4))
 (M.new (.cells (Row.ofList [(.int .u8 (wrapW .u8 (orW .i64 (IntKind.i64.wrap (r18_ * 2 ^ (min (Int.toNat 4) IntKind.i64.bits))) r19_)))]) 5 false (0, 0) false) fun b25_ =>
 M.append 5 1 1 s8_.1.1 s8_.1.2.1 s8_.1.2.2 (.slice (some (Addr.mk b25_ 0 none)) 1 1) fun a26_ n27_ c28_ =>
 go11_ ((a26_, n27_, c28_), 4, ())))) fun go21_ =>
 M.ite (ltB r18_ 0)
 (go21_ (true, ()))
 (go21_ ((ltB r19_ 0), ()))
def f25c1 (X : XT) (L : LoopI) (s8_ : (SL) × (ByteArray) × Unit) (go11_ : ((SL) × (Int) × Unit) → M (((SL) × (ByteArray) × Unit) ⊕ (((SL) × Unit) ⊕ (((ByteArray) × (ByteArray) × (Bool) × Unit) ⊕ (Unit))))) (j31_ : (Bool) × Unit) : M (((SL) × (ByteArray) × Unit) ⊕ (((SL) × Unit) ⊕ (((ByteArray) × (ByteArray) × (Bool) × Unit) ⊕ (Unit)))) :=
 M.ite j31_.1
 (M.guard (inB 1 s8_.2.1.size)
 (M.new (.cells (Row.ofList [(.int .u8 (byteAt s8_.2.1 1))]) 5 false (0, 0) false) fun b34_ =>
 M.append 5 1 1 s8_.1.1 s8_.1.2.1 s8_.1.2.2 (.slice (some (Addr.mk b34_ 0 none)) 1 1) fun a35_ n36_ c37_ =>
 go11_ ((a35_, n36_, c37_), 2, ())))
 (M.guard (inB 0 s8_.2.1.size)
 (M.new (.cells (Row.ofList [(.int .u8 (byteAt s8_.2.1 0))]) 5 false (0, 0) false) fun b39_ =>
 M.append 5 1 1 s8_.1.1 s8_.1.2.1 s8_.1.2.2 (.slice (some (Addr.mk b39_ 0 none)) 1 1) fun a40_ n41_ c42_ =>
 go11_ ((a40_, n41_, c42_), 1, ())))
def f25c2 (X : XT) (L : LoopI) (s8_ : (SL) × (ByteArray) × Unit) (go11_ : ((SL) × (Int) × Unit) → M (((SL) × (ByteArray) × Unit) ⊕ (((SL) × Unit) ⊕ (((ByteArray) × (ByteArray) × (Bool) × Unit) ⊕ (Unit))))) (j14_ : (Bool) × Unit) : M (((SL) × (ByteArray) × Unit) ⊕ (((SL) × Unit) ⊕ (((ByteArray) × (ByteArray) × (Bool) × Unit) ⊕ (Unit)))) :=
 M.ite j14_.1
 (M.guard (inB 2 s8_.2.1.size)
 (M.guard (inB 3 s8_.2.1.size)
 (M.callS (.one (.cell (.int .i64))) (X (.call 60 [(.string st15), (.int .u8 (byteAt s8_.2.1 2))])) fun (r18_ : Int) =>
 M.callS (.one (.cell (.int .i64))) (X (.call 60 [(.string st15), (.int .u8 (byteAt s8_.2.1 3))])) fun (r19_ : Int) =>
 f25c0 X L s8_ go11_ r18_ r19_)))
 (M.join (fun (j31_ : (Bool) × Unit) =>
 f25c1 X L s8_ go11_ j31_) fun go32_ =>
 M.guard (inB 0 s8_.2.1.size)
 (M.ite (eqB (byteAt s8_.2.1 0) 92)
 (go32_ ((leB 2 ((s8_.2.1.size : Nat) : Int)), ()))
 (go32_ (false, ()))))
def f25c3 (X : XT) (L : LoopI) (x : (ByteArray) × Unit) (r0_ : Int) (v3_ : ByteArray) (v7_ : ByteArray) : M (Value) :=
 M.bind (L (σ := (SL) × (ByteArray) × Unit) (ρ := ((SL) × Unit) ⊕ (((ByteArray) × (ByteArray) × (Bool) × Unit) ⊕ (Unit))) (fun s8_ =>
 M.ite (!(seq s8_.2.1 st0))
 (M.join (fun (j10_ : (SL) × (Int) × Unit) =>
 M.guard (upB j10_.2.1 s8_.2.1.size)
 (M.pure (.inl (j10_.1, (s8_.2.1.extract (Int.toNat j10_.2.1) s8_.2.1.size), ())))) fun go11_ =>
 M.join (fun (j14_ : (Bool) × Unit) =>
 f25c2 X L s8_ go11_ j14_) fun go15_ =>
 M.callS (.one (.cell .bool)) (X (.call 59 [(.string s8_.2.1), (.string st16)])) fun (r47_ : Bool) =>
 M.ite r47_
 (go15_ ((leB 4 ((s8_.2.1.size : Nat) : Int)), ()))
 (go15_ (false, ())))
 (M.pure (.inr (.inl (s8_.1, ()))))) ((none, 0, 0), v7_, ())) <| M.sum (fun (j50_ : (SL) × Unit) =>
 M.toStr j50_.1.1 j50_.1.2.1 fun s51_ =>
 M.callS (.one (.cell .string)) (X (.call 26 [(.string s51_)])) fun (r52_ : ByteArray) =>
 M.ite (!(seq r52_ v3_))
 (M.pure (.tuple ⟨[(.string st0), (.string st0), (.bool false)]⟩))
 (M.guard (upB r0_ x.1.size)
 (M.toStr j50_.1.1 j50_.1.2.1 fun s56_ =>
 M.pure (.tuple ⟨[(.string s56_), (.string (x.1.extract (Int.toNat r0_) x.1.size)), (.bool true)]⟩)))) (M.sum (fun (j57_ : (ByteArray) × (ByteArray) × (Bool) × Unit) =>
 M.pure (.tuple ⟨[(.string j57_.1), (.string j57_.2.1), (.bool j57_.2.2.1)]⟩)) (fun _ => M.stuck))
def f25 (X : XT) (L : LoopI) (x : (ByteArray) × Unit) : M Value :=
 M.callS (.one (.cell (.int .i64))) (X (.call 58 [(.string x.1)])) fun (r0_ : Int) =>
 M.ite (ltB r0_ 0)
 (M.pure (.tuple ⟨[(.string st0), (.string st0), (.bool false)]⟩))
 (M.guard (upB r0_ x.1.size)
 (let v3_ : ByteArray := x.1.extract 0 (Int.toNat r0_)
 let v4_ : Int := subW .i64 r0_ 1
 M.guard (upB v4_ v3_.size)
 (let v5_ : Nat := (Int.toNat v4_)
 M.guard (upB 1 v5_)
 (f25c3 X L x r0_ v3_ (v3_.extract (Int.toNat 1) v5_)))))

theorem e25 (X : XT) (L : LoopI) (x : (ByteArray) × Unit) : evBody CC { call := X, loop := L } 25 (shsInj [(.cell .string)] x) = f25 X L x := by kernel_rfl

end
end Go.Proofs.YtlcigkdflbfdgaaGreatDoor.sg
