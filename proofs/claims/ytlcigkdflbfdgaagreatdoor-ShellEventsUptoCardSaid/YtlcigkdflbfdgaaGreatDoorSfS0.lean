/-
  What the functions come to, part 0: each text, and that the reading gives it.
-/
import Derived.Test.YtlcigkdflbfdgaaGreatDoorSfH
import Derived.KernelRfl
set_option linter.unusedVariables false
namespace Go.Proofs.YtlcigkdflbfdgaaGreatDoor.sf
open Go Go.Eng
noncomputable section
/-- hayrick/hayricklaw30.ShellEvents -/
def f3c0 (X : XT) (L : LoopI) (r0_ : (ByteArray) × (Int) × Unit) (r2_ : (ByteArray) × (Int) × Unit) (r3_ : (SL) × (Int) × (Int) × Unit) (r4_ : (SL) × (Int) × (Int) × Unit) (go6_ : ((Bool) × Unit) → M (Value)) : M (Value) :=
 M.ite (eqB r0_.2.1 r2_.2.1)
 (M.callS (.one (.cell .slice)) (X (.call 7 [(.slice r3_.1.1 r3_.1.2.1 r3_.1.2.2)])) fun (r9_ : SL) =>
 M.callS (.one (.cell .bool)) (X (.call 10 [(.slice r9_.1 r9_.2.1 r9_.2.2), (.slice r4_.1.1 r4_.1.2.1 r4_.1.2.2)])) fun (r10_ : Bool) =>
 M.ite r10_
 (M.ite (eqB r3_.2.1 r4_.2.1)
 (M.ite (eqB r3_.2.2.1 r4_.2.2.1)
 (M.callS (.one (.cell .bool)) (X (.call 11 [])) fun (r13_ : Bool) =>
 go6_ (r13_, ()))
 (go6_ (false, ())))
 (go6_ (false, ())))
 (go6_ (false, ())))
 (go6_ (false, ()))
def f3c1 (X : XT) (L : LoopI) (x : (SL) × (ByteArray) × Unit) (r0_ : (ByteArray) × (Int) × Unit) (r1_ : SL) : M (Value) :=
 M.callS (.tuple [(.cell .string), (.cell (.int .i64))]) (X (.call 6 [(.slice r1_.1 r1_.2.1 r1_.2.2)])) fun (r2_ : (ByteArray) × (Int) × Unit) =>
 M.callS (.tuple [(.cell .slice), (.cell (.int .i64)), (.cell (.int .i64))]) (X (.call 8 [(.string x.2.1)])) fun (r3_ : (SL) × (Int) × (Int) × Unit) =>
 M.callS (.tuple [(.cell .slice), (.cell (.int .i64)), (.cell (.int .i64))]) (X (.call 9 [(.string x.2.1)])) fun (r4_ : (SL) × (Int) × (Int) × Unit) =>
 M.join (fun (j5_ : (Bool) × Unit) =>
 M.pure (.bool j5_.1)) fun go6_ =>
 M.ite (seq r0_.1 r2_.1)
 (f3c0 X L r0_ r2_ r3_ r4_ go6_)
 (go6_ (false, ()))
def f3 (X : XT) (L : LoopI) (x : (SL) × (ByteArray) × Unit) : M Value :=
 M.callS (.tuple [(.cell .string), (.cell (.int .i64))]) (X (.call 5 [(.slice x.1.1 x.1.2.1 x.1.2.2)])) fun (r0_ : (ByteArray) × (Int) × Unit) =>
 M.callS (.one (.cell .slice)) (X (.call 7 [(.slice x.1.1 x.1.2.1 x.1.2.2)])) fun (r1_ : SL) =>
 f3c1 X L x r0_ r1_

theorem e3 (X : XT) (L : LoopI) (x : (SL) × (ByteArray) × Unit) : evBody CC { call := X, loop := L } 3 (shsInj [(.cell .slice), (.cell .string)] x) = f3 X L x := by kernel_rfl

/-- hayrick/shell.Text -/
def f5 (X : XT) (L : LoopI) (x : (SL) × Unit) : M Value :=
 M.callS (.tuple [(.cell .string), (.cell (.int .i64))]) (X (.call 18 [(.slice x.1.1 x.1.2.1 x.1.2.2), (.func (.func 19) ⟨[]⟩ ⟨[]⟩)])) fun (r0_ : (ByteArray) × (Int) × Unit) =>
 M.pure (.tuple ⟨[(.string r0_.1), (.int .i64 r0_.2.1)]⟩)

theorem e5 (X : XT) (L : LoopI) (x : (SL) × Unit) : evBody CC { call := X, loop := L } 5 (shsInj [(.cell .slice)] x) = f5 X L x := by kernel_rfl

/-- hayrick/hayrickref30.Text -/
def f6c0 (X : XT) (L : LoopI) (s0_ : (SL) × (Int) × Unit) (x4_ : Int × ByteArray × ByteArray × Int × Int × SL × Unit) : M (((SL) × (Int) × Unit) ⊕ (((SL) × Unit) ⊕ (((ByteArray) × (Int) × Unit) ⊕ (Unit)))) :=
 M.callS (.tuple [(.cell .string), (.cell .bool)]) (X (.call 20 [(.agg ⟨[(.int .i64 x4_.1), (.string x4_.2.1), (.string x4_.2.2.1), (.int .i64 x4_.2.2.2.1), (.int .i64 x4_.2.2.2.2.1), (.slice x4_.2.2.2.2.2.1.1 x4_.2.2.2.2.2.1.2.1 x4_.2.2.2.2.2.1.2.2)]⟩)])) fun (r5_ : (ByteArray) × (Bool) × Unit) =>
 M.ite (!r5_.2.1)
 (M.pure (.inr (.inr (.inl (st0, 1, ())))))
 (M.append 5 1 1 s0_.1.1 s0_.1.2.1 s0_.1.2.2 (.string r5_.1) fun a7_ n8_ c9_ =>
 M.new (.cells (Row.ofList [(.int .u8 10)]) 5 false (0, 0) false) fun b10_ =>
 M.append 5 1 1 a7_ n8_ c9_ (.slice (some (Addr.mk b10_ 0 none)) 1 1) fun a11_ n12_ c13_ =>
 M.pure (.inl ((a11_, n12_, c13_), (addW .i64 s0_.2.1 1), ())))
def f6c1 (X : XT) (L : LoopI) (x : (SL) × Unit) : M (Value) :=
 M.bind (L (σ := (SL) × (Int) × Unit) (ρ := ((SL) × Unit) ⊕ (((ByteArray) × (Int) × Unit) ⊕ (Unit))) (fun s0_ =>
 M.ite (ltB s0_.2.1 ((x.1.2.1 : Nat) : Int))
 (M.guard (inB s0_.2.1 x.1.2.1)
 (M.deref x.1.1 fun a3_ =>
 M.load (.agg [(.int .i64), .string, .string, (.int .i64), (.int .i64), .slice]) 6 (a3_.add ((Int.toNat s0_.2.1) * 6)) fun (x4_ : Int × ByteArray × ByteArray × Int × Int × SL × Unit) =>
 f6c0 X L s0_ x4_))
 (M.pure (.inr (.inl (s0_.1, ()))))) ((none, 0, 0), 0, ())) <| M.sum (fun (j15_ : (SL) × Unit) =>
 M.ite (ltB 65536 ((j15_.1.2.1 : Nat) : Int))
 (M.pure (.tuple ⟨[(.string st0), (.int .i64 3)]⟩))
 (M.toStr j15_.1.1 j15_.1.2.1 fun s18_ =>
 M.pure (.tuple ⟨[(.string s18_), (.int .i64 0)]⟩))) (M.sum (fun (j19_ : (ByteArray) × (Int) × Unit) =>
 M.pure (.tuple ⟨[(.string j19_.1), (.int .i64 j19_.2.1)]⟩)) (fun _ => M.stuck))
def f6 (X : XT) (L : LoopI) (x : (SL) × Unit) : M Value :=
 f6c1 X L x

theorem e6 (X : XT) (L : LoopI) (x : (SL) × Unit) : evBody CC { call := X, loop := L } 6 (shsInj [(.cell .slice)] x) = f6 X L x := by kernel_rfl

/-- hayrick/hayricklaw30.theirs -/
def f7c0 (X : XT) (L : LoopI) (s0_ : (SL) × (Int) × Unit) (a3_ : Addr) : M (((SL) × (Int) × Unit) ⊕ (((SL) × Unit) ⊕ (Unit))) :=
 M.load (.agg [(.int .i64), .string, .string, (.int .i64), (.int .i64), .slice]) 6 (a3_.add ((Int.toNat s0_.2.1) * 6)) fun (x4_ : Int × ByteArray × ByteArray × Int × Int × SL × Unit) =>
 M.new (.cells (Row.ofList [(.int .i64 x4_.1), (.string x4_.2.1), (.string x4_.2.2.1), (.int .i64 x4_.2.2.2.1), (.int .i64 x4_.2.2.2.2.1), (.slice x4_.2.2.2.2.2.1.1 x4_.2.2.2.2.2.1.2.1 x4_.2.2.2.2.2.1.2.2)]) 55 false (0, 0) false) fun b5_ =>
 M.append 55 6 80 s0_.1.1 s0_.1.2.1 s0_.1.2.2 (.slice (some (Addr.mk b5_ 0 none)) 1 1) fun a6_ n7_ c8_ =>
 M.pure (.inl ((a6_, n7_, c8_), (addW .i64 s0_.2.1 1), ()))
def f7 (X : XT) (L : LoopI) (x : (SL) × Unit) : M Value :=
 M.bind (L (σ := (SL) × (Int) × Unit) (ρ := ((SL) × Unit) ⊕ (Unit)) (fun s0_ =>
 M.ite (ltB s0_.2.1 ((x.1.2.1 : Nat) : Int))
 (M.guard (inB s0_.2.1 x.1.2.1)
 (M.deref x.1.1 fun a3_ =>
 f7c0 X L s0_ a3_))
 (M.pure (.inr (.inl (s0_.1, ()))))) ((none, 0, 0), 0, ())) <| M.sum (fun (j10_ : (SL) × Unit) =>
 M.pure (.slice j10_.1.1 j10_.1.2.1 j10_.1.2.2)) (fun _ => M.stuck)

theorem e7 (X : XT) (L : LoopI) (x : (SL) × Unit) : evBody CC { call := X, loop := L } 7 (shsInj [(.cell .slice)] x) = f7 X L x := by kernel_rfl

/-- hayrick/shell.Parse -/
def f8 (X : XT) (L : LoopI) (x : (ByteArray) × Unit) : M Value :=
 M.callS (.tuple [(.cell .slice), (.cell (.int .i64)), (.cell (.int .i64))]) (X (.call 21 [(.string x.1), (.func (.func 22) ⟨[]⟩ ⟨[]⟩)])) fun (r0_ : (SL) × (Int) × (Int) × Unit) =>
 M.pure (.tuple ⟨[(.slice r0_.1.1 r0_.1.2.1 r0_.1.2.2), (.int .i64 r0_.2.1), (.int .i64 r0_.2.2.1)]⟩)

theorem e8 (X : XT) (L : LoopI) (x : (ByteArray) × Unit) : evBody CC { call := X, loop := L } 8 (shsInj [(.cell .string)] x) = f8 X L x := by kernel_rfl

/-- hayrick/hayrickref30.Parse -/
def f9c0 (X : XT) (L : LoopI) (s3_ : (SL) × (Int) × Unit) (b9_ : Nat) : M (((SL) × (Int) × Unit) ⊕ (((SL) × Unit) ⊕ (((SL) × (Int) × (Int) × Unit) ⊕ (Unit)))) :=
 M.load (.agg [(.int .i64), .string, .string, (.int .i64), (.int .i64), .slice]) 6 (Addr.mk b9_ 0 none) fun (x13_ : Int × ByteArray × ByteArray × Int × Int × SL × Unit) =>
 M.new (.cells (Row.ofList [(.int .i64 x13_.1), (.string x13_.2.1), (.string x13_.2.2.1), (.int .i64 x13_.2.2.2.1), (.int .i64 x13_.2.2.2.2.1), (.slice x13_.2.2.2.2.2.1.1 x13_.2.2.2.2.2.1.2.1 x13_.2.2.2.2.2.1.2.2)]) 55 false (0, 0) false) fun b14_ =>
 M.append 55 6 80 s3_.1.1 s3_.1.2.1 s3_.1.2.2 (.slice (some (Addr.mk b14_ 0 none)) 1 1) fun a15_ n16_ c17_ =>
 M.pure (.inl ((a15_, n16_, c17_), (addW .i64 s3_.2.1 1), ()))
def f9c1 (X : XT) (L : LoopI) (r2_ : (SL) × (Bool) × Unit) (s3_ : (SL) × (Int) × Unit) (r8_ : (Int × ByteArray × ByteArray × Int × Int × SL × Unit) × (Bool) × Unit) (b9_ : Nat) : M (((SL) × (Int) × Unit) ⊕ (((SL) × Unit) ⊕ (((SL) × (Int) × (Int) × Unit) ⊕ (Unit)))) :=
 M.store (Addr.mk b9_ 0 none) [(.int .i64 r8_.1.1), (.string r8_.1.2.1), (.string r8_.1.2.2.1), (.int .i64 r8_.1.2.2.2.1), (.int .i64 r8_.1.2.2.2.2.1), (.slice r8_.1.2.2.2.2.2.1.1 r8_.1.2.2.2.2.2.1.2.1 r8_.1.2.2.2.2.2.1.2.2)]
 (M.join (fun (j10_ : (Bool) × Unit) =>
 M.ite j10_.1
 (M.pure (.inr (.inr (.inl ((none, 0, 0), (addW .i64 s3_.2.1 1), 5, ())))))
 (f9c0 X L s3_ b9_)) fun go11_ =>
 M.ite (!r8_.2.1)
 (go11_ (true, ()))
 (M.ite (!r2_.2.1)
 (go11_ ((eqB s3_.2.1 (subW .i64 ((r2_.1.2.1 : Nat) : Int) 1)), ()))
 (go11_ (false, ()))))
def f9c2 (X : XT) (L : LoopI) (r2_ : (SL) × (Bool) × Unit) (s3_ : (SL) × (Int) × Unit) : M (((SL) × (Int) × Unit) ⊕ (((SL) × Unit) ⊕ (((SL) × (Int) × (Int) × Unit) ⊕ (Unit)))) :=
 M.guard (inB s3_.2.1 r2_.1.2.1)
 (M.deref r2_.1.1 fun a6_ =>
 M.load (.cell .string) 1 (a6_.add ((Int.toNat s3_.2.1) * 1)) fun (x7_ : ByteArray) =>
 M.callS (.tuple [(.agg [(.int .i64), .string, .string, (.int .i64), (.int .i64), .slice]), (.cell .bool)]) (X (.call 24 [(.string x7_)])) fun (r8_ : (Int × ByteArray × ByteArray × Int × Int × SL × Unit) × (Bool) × Unit) =>
 M.new (.cells (Row.ofList [(.int .i64 0), (.string st0), (.string st0), (.int .i64 0), (.int .i64 0), (.slice none 0 0)]) 55 false (0, 0) false) fun b9_ =>
 f9c1 X L r2_ s3_ r8_ b9_)
def f9c3 (X : XT) (L : LoopI) (r2_ : (SL) × (Bool) × Unit) : M (Value) :=
 M.bind (L (σ := (SL) × (Int) × Unit) (ρ := ((SL) × Unit) ⊕ (((SL) × (Int) × (Int) × Unit) ⊕ (Unit))) (fun s3_ =>
 M.ite (ltB s3_.2.1 ((r2_.1.2.1 : Nat) : Int))
 (f9c2 X L r2_ s3_)
 (M.pure (.inr (.inl (s3_.1, ()))))) ((none, 0, 0), 0, ())) <| M.sum (fun (j24_ : (SL) × Unit) =>
 M.pure (.tuple ⟨[(.slice j24_.1.1 j24_.1.2.1 j24_.1.2.2), (.int .i64 0), (.int .i64 0)]⟩)) (M.sum (fun (j25_ : (SL) × (Int) × (Int) × Unit) =>
 M.pure (.tuple ⟨[(.slice j25_.1.1 j25_.1.2.1 j25_.1.2.2), (.int .i64 j25_.2.1), (.int .i64 j25_.2.2.1)]⟩)) (fun _ => M.stuck))
def f9 (X : XT) (L : LoopI) (x : (ByteArray) × Unit) : M Value :=
 M.ite (ltB 65536 ((x.1.size : Nat) : Int))
 (M.pure (.tuple ⟨[(.slice none 0 0), (.int .i64 0), (.int .i64 3)]⟩))
 (M.callS (.tuple [(.cell .slice), (.cell .bool)]) (X (.call 23 [(.string x.1)])) fun (r2_ : (SL) × (Bool) × Unit) =>
 f9c3 X L r2_)

theorem e9 (X : XT) (L : LoopI) (x : (ByteArray) × Unit) : evBody CC { call := X, loop := L } 9 (shsInj [(.cell .string)] x) = f9 X L x := by kernel_rfl

/-- hayrick/hayricklaw30.events -/
def f10c0 (X : XT) (L : LoopI) (b10_ : Nat) (b11_ : Nat) (go14_ : ((Bool) × Unit) → M (((Int) × Unit) ⊕ ((Unit) ⊕ (((Bool) × Unit) ⊕ (Unit))))) (x25_ : Int) : M (((Int) × Unit) ⊕ ((Unit) ⊕ (((Bool) × Unit) ⊕ (Unit)))) :=
 M.load (.cell (.int .i64)) 1 ((Addr.mk b11_ 0 none).add 3) fun (x26_ : Int) =>
 M.ite (!(eqB x25_ x26_))
 (go14_ (true, ()))
 (M.load (.cell (.int .i64)) 1 ((Addr.mk b10_ 0 none).add 4) fun (x28_ : Int) =>
 M.load (.cell (.int .i64)) 1 ((Addr.mk b11_ 0 none).add 4) fun (x29_ : Int) =>
 M.ite (!(eqB x28_ x29_))
 (go14_ (true, ()))
 (M.load (.cell .slice) 1 ((Addr.mk b10_ 0 none).add 5) fun (x31_ : SL) =>
 M.toStr x31_.1 x31_.2.1 fun s32_ =>
 M.load (.cell .slice) 1 ((Addr.mk b11_ 0 none).add 5) fun (x33_ : SL) =>
 M.toStr x33_.1 x33_.2.1 fun s34_ =>
 go14_ ((!(seq s32_ s34_)), ())))
def f10c1 (X : XT) (L : LoopI) (b10_ : Nat) (b11_ : Nat) (go14_ : ((Bool) × Unit) → M (((Int) × Unit) ⊕ ((Unit) ⊕ (((Bool) × Unit) ⊕ (Unit))))) : M (((Int) × Unit) ⊕ ((Unit) ⊕ (((Bool) × Unit) ⊕ (Unit)))) :=
 M.load (.cell .string) 1 ((Addr.mk b10_ 0 none).add 1) fun (x19_ : ByteArray) =>
 M.load (.cell .string) 1 ((Addr.mk b11_ 0 none).add 1) fun (x20_ : ByteArray) =>
 M.ite (!(seq x19_ x20_))
 (go14_ (true, ()))
 (M.load (.cell .string) 1 ((Addr.mk b10_ 0 none).add 2) fun (x22_ : ByteArray) =>
 M.load (.cell .string) 1 ((Addr.mk b11_ 0 none).add 2) fun (x23_ : ByteArray) =>
 M.ite (!(seq x22_ x23_))
 (go14_ (true, ()))
 (M.load (.cell (.int .i64)) 1 ((Addr.mk b10_ 0 none).add 3) fun (x25_ : Int) =>
 f10c0 X L b10_ b11_ go14_ x25_))
def f10c2 (X : XT) (L : LoopI) (s3_ : (Int) × Unit) (a8_ : Addr) (x9_ : Int × ByteArray × ByteArray × Int × Int × SL × Unit) (b10_ : Nat) (b11_ : Nat) : M (((Int) × Unit) ⊕ ((Unit) ⊕ (((Bool) × Unit) ⊕ (Unit)))) :=
 M.load (.agg [(.int .i64), .string, .string, (.int .i64), (.int .i64), .slice]) 6 (a8_.add ((Int.toNat s3_.1) * 6)) fun (x12_ : Int × ByteArray × ByteArray × Int × Int × SL × Unit) => cond (veqv (.agg ⟨[(.int .i64 x12_.1), (.string x12_.2.1), (.string x12_.2.2.1), (.int .i64 x12_.2.2.2.1), (.int .i64 x12_.2.2.2.2.1), (.slice x12_.2.2.2.2.2.1.1 x12_.2.2.2.2.2.1.2.1 x12_.2.2.2.2.2.1.2.2)]⟩) (.agg ⟨[(.int .i64 x9_.1), (.string x9_.2.1), (.string x9_.2.2.1), (.int .i64 x9_.2.2.2.1), (.int .i64 x9_.2.2.2.2.1), (.slice x9_.2.2.2.2.2.1.1 x9_.2.2.2.2.2.1.2.1 x9_.2.2.2.2.2.1.2.2)]⟩)) (M.store (Addr.mk b11_ 0 none) [(.int .i64 x9_.1), (.string x9_.2.1), (.string x9_.2.2.1), (.int .i64 x9_.2.2.2.1), (.int .i64 x9_.2.2.2.2.1), (.slice x9_.2.2.2.2.2.1.1 x9_.2.2.2.2.2.1.2.1 x9_.2.2.2.2.2.1.2.2)]
 (M.join (fun (j13_ : (Bool) × Unit) =>
 M.ite j13_.1
 (M.pure (.inr (.inr (.inl (false, ())))))
 (M.pure (.inl ((addW .i64 s3_.1 1), ())))) fun go14_ =>
 M.load (.cell (.int .i64)) 1 ((Addr.mk b10_ 0 none).add 0) fun (x16_ : Int) =>
 M.load (.cell (.int .i64)) 1 ((Addr.mk b11_ 0 none).add 0) fun (x17_ : Int) =>
 M.ite (!(eqB x16_ x17_))
 (go14_ (true, ()))
 (f10c1 X L b10_ b11_ go14_))) M.stuck
def f10c3 (X : XT) (L : LoopI) (s3_ : (Int) × Unit) (x7_ : Int × ByteArray × ByteArray × Int × Int × SL × Unit) (a8_ : Addr) (x9_ : Int × ByteArray × ByteArray × Int × Int × SL × Unit) : M (((Int) × Unit) ⊕ ((Unit) ⊕ (((Bool) × Unit) ⊕ (Unit)))) :=
 M.new (.cells (Row.ofList [(.int .i64 0), (.string st0), (.string st0), (.int .i64 0), (.int .i64 0), (.slice none 0 0)]) 55 false (0, 0) false) fun b10_ =>
 M.new (.cells (Row.ofList [(.int .i64 0), (.string st0), (.string st0), (.int .i64 0), (.int .i64 0), (.slice none 0 0)]) 55 false (0, 0) false) fun b11_ =>
 M.store (Addr.mk b10_ 0 none) [(.int .i64 x7_.1), (.string x7_.2.1), (.string x7_.2.2.1), (.int .i64 x7_.2.2.2.1), (.int .i64 x7_.2.2.2.2.1), (.slice x7_.2.2.2.2.2.1.1 x7_.2.2.2.2.2.1.2.1 x7_.2.2.2.2.2.1.2.2)]
 (f10c2 X L s3_ a8_ x9_ b10_ b11_)
def f10c4 (X : XT) (L : LoopI) (x : (SL) × (SL) × Unit) (s3_ : (Int) × Unit) : M (((Int) × Unit) ⊕ ((Unit) ⊕ (((Bool) × Unit) ⊕ (Unit)))) :=
 M.guard (inB s3_.1 x.1.2.1)
 (M.deref x.1.1 fun a6_ =>
 M.load (.agg [(.int .i64), .string, .string, (.int .i64), (.int .i64), .slice]) 6 (a6_.add ((Int.toNat s3_.1) * 6)) fun (x7_ : Int × ByteArray × ByteArray × Int × Int × SL × Unit) =>
 M.guard (inB s3_.1 x.2.1.2.1)
 (M.deref x.2.1.1 fun a8_ =>
 M.load (.agg [(.int .i64), .string, .string, (.int .i64), (.int .i64), .slice]) 6 (a8_.add ((Int.toNat s3_.1) * 6)) fun (x9_ : Int × ByteArray × ByteArray × Int × Int × SL × Unit) =>
 f10c3 X L s3_ x7_ a8_ x9_))
def f10 (X : XT) (L : LoopI) (x : (SL) × (SL) × Unit) : M Value :=
 M.ite (!(eqB ((x.1.2.1 : Nat) : Int) ((x.2.1.2.1 : Nat) : Int)))
 (M.pure (.bool false))
 (M.bind (L (σ := (Int) × Unit) (ρ := (Unit) ⊕ (((Bool) × Unit) ⊕ (Unit))) (fun s3_ =>
 M.ite (ltB s3_.1 ((x.1.2.1 : Nat) : Int))
 (f10c4 X L x s3_)
 (M.pure (.inr (.inl (()))))) (0, ())) <| M.sum (fun (j36_ : Unit) =>
 M.pure (.bool true)) (M.sum (fun (j37_ : (Bool) × Unit) =>
 M.pure (.bool j37_.1)) (fun _ => M.stuck)))

theorem e10 (X : XT) (L : LoopI) (x : (SL) × (SL) × Unit) : evBody CC { call := X, loop := L } 10 (shsInj [(.cell .slice), (.cell .slice)] x) = f10 X L x := by kernel_rfl

/-- hayrick/hayricklaw30.wakes -/
def f11c0 (X : XT) (L : LoopI) (r7_ : (ByteArray) × (Int) × Unit) (r8_ : (SL) × (Int) × (Int) × Unit) (r9_ : (SL) × (Int) × (Int) × Unit) (go11_ : ((Bool) × Unit) → M (Value)) : M (Value) :=
 M.ite (eqB r7_.2.1 0)
 (M.ite (seq r7_.1 st12)
 (M.ite (eqB r8_.2.2.1 0)
 (M.ite (eqB r8_.2.1 0)
 (M.ite (eqB ((r8_.1.2.1 : Nat) : Int) 2)
 (M.guard (inB 0 r8_.1.2.1)
 (M.deref r8_.1.1 fun a25_ =>
 M.load (.cell (.int .i64)) 1 ((a25_.add ((Int.toNat 0) * 6)).add 3) fun (x26_ : Int) =>
 M.ite (eqB x26_ (-1))
 (M.ite (eqB r9_.2.1 1)
 (go11_ ((eqB r9_.2.2.1 5), ()))
 (go11_ (false, ())))
 (go11_ (false, ()))))
 (go11_ (false, ())))
 (go11_ (false, ())))
 (go11_ (false, ())))
 (go11_ (false, ())))
 (go11_ (false, ()))
def f11c1 (X : XT) (L : LoopI) (r0_ : (ByteArray) × (ByteArray) × (Bool) × Unit) (r1_ : (ByteArray) × (ByteArray) × (Bool) × Unit) (r4_ : (ByteArray) × (Int) × Unit) (r7_ : (ByteArray) × (Int) × Unit) (r8_ : (SL) × (Int) × (Int) × Unit) : M (Value) :=
 M.callS (.tuple [(.cell .slice), (.cell (.int .i64)), (.cell (.int .i64))]) (X (.call 8 [(.string st6)])) fun (r9_ : (SL) × (Int) × (Int) × Unit) =>
 M.join (fun (j10_ : (Bool) × Unit) =>
 M.pure (.bool j10_.1)) fun go11_ =>
 M.callS (.one (.cell .string)) (X (.call 26 [(.string st7)])) fun (r12_ : ByteArray) =>
 M.ite (seq r12_ st8)
 (M.ite (seq r0_.1 st9)
 (M.ite (seq r0_.2.1 st10)
 (M.ite r0_.2.2.1
 (M.ite (!r1_.2.2.1)
 (M.ite (eqB r4_.2.1 0)
 (M.ite (seq r4_.1 st11)
 (f11c0 X L r7_ r8_ r9_ go11_)
 (go11_ (false, ())))
 (go11_ (false, ())))
 (go11_ (false, ())))
 (go11_ (false, ())))
 (go11_ (false, ())))
 (go11_ (false, ())))
 (go11_ (false, ()))
def f11c2 (X : XT) (L : LoopI) (r0_ : (ByteArray) × (ByteArray) × (Bool) × Unit) (r1_ : (ByteArray) × (ByteArray) × (Bool) × Unit) (r4_ : (ByteArray) × (Int) × Unit) (b5_ : Nat) : M (Value) :=
 M.new (.cells (Row.ofList [(.int .i64 10), (.int .i64 0), (.bool false), (.slice none 0 0), (.int .i64 2), (.int .i64 1), (.int .i64 203), (.int .i64 1), (.slice none 0 0), (.int .i64 1), (.int .i64 33), (.bool false), (.slice none 0 0), (.int .i64 0), (.int .i64 0), (.int .i64 0), (.int .i64 0), (.slice none 0 0), (.int .i64 11), (.int .i64 0), (.bool false), (.slice none 0 0), (.int .i64 0), (.int .i64 0), (.int .i64 0), (.int .i64 0), (.slice (some (Addr.mk b5_ 0 none)) 1 1)]) 69 false (0, 0) false) fun b6_ =>
 M.callS (.tuple [(.cell .string), (.cell (.int .i64))]) (X (.call 12 [(.slice (some (Addr.mk b6_ 0 none)) 3 3)])) fun (r7_ : (ByteArray) × (Int) × Unit) =>
 M.callS (.tuple [(.cell .slice), (.cell (.int .i64)), (.cell (.int .i64))]) (X (.call 8 [(.string st5)])) fun (r8_ : (SL) × (Int) × (Int) × Unit) =>
 f11c1 X L r0_ r1_ r4_ r7_ r8_
def f11c3 (X : XT) (L : LoopI) (r0_ : (ByteArray) × (ByteArray) × (Bool) × Unit) (r1_ : (ByteArray) × (ByteArray) × (Bool) × Unit) : M (Value) :=
 M.new (.cells (Row.ofList [(.int .u8 104), (.int .u8 105)]) 5 false (0, 0) false) fun b2_ =>
 M.mark (Addr.mk b2_ 0 none)
 (M.new (.cells (Row.ofList [(.int .i64 8), (.string st3), (.string st0), (.int .i64 3), (.int .i64 0), (.slice (some (Addr.mk b2_ 0 none)) 2 2)]) 51 false (0, 0) false) fun b3_ =>
 M.callS (.tuple [(.cell .string), (.cell (.int .i64))]) (X (.call 5 [(.slice (some (Addr.mk b3_ 0 none)) 1 1)])) fun (r4_ : (ByteArray) × (Int) × Unit) =>
 M.new (.cells (Row.ofList [(.int .i64 2), (.string st4)]) 71 false (0, 0) false) fun b5_ =>
 f11c2 X L r0_ r1_ r4_ b5_)
def f11 (X : XT) (L : LoopI) (x : Unit) : M Value :=
 M.callS (.tuple [(.cell .string), (.cell .string), (.cell .bool)]) (X (.call 25 [(.string st1)])) fun (r0_ : (ByteArray) × (ByteArray) × (Bool) × Unit) =>
 M.callS (.tuple [(.cell .string), (.cell .string), (.cell .bool)]) (X (.call 25 [(.string st2)])) fun (r1_ : (ByteArray) × (ByteArray) × (Bool) × Unit) =>
 f11c3 X L r0_ r1_

theorem e11 (X : XT) (L : LoopI) (x : Unit) : evBody CC { call := X, loop := L } 11 (shsInj [] x) = f11 X L x := by kernel_rfl

/-- hayrick/shell.Rows -/
def f12 (X : XT) (L : LoopI) (x : (SL) × Unit) : M Value :=
 M.callS (.tuple [(.cell .string), (.cell (.int .i64))]) (X (.call 27 [(.slice x.1.1 x.1.2.1 x.1.2.2), (.func (.func 28) ⟨[]⟩ ⟨[]⟩)])) fun (r0_ : (ByteArray) × (Int) × Unit) =>
 M.pure (.tuple ⟨[(.string r0_.1), (.int .i64 r0_.2.1)]⟩)

theorem e12 (X : XT) (L : LoopI) (x : (SL) × Unit) : evBody CC { call := X, loop := L } 12 (shsInj [(.cell .slice)] x) = f12 X L x := by kernel_rfl

/-- hayrick/shell.written[hayrick/world.Event] -/
def f18c0 (X : XT) (L : LoopI) (x : (SL) × (Value) × Unit) (b0_ : Nat) (s2_ : (Int) × Unit) (x7_ : Int × ByteArray × ByteArray × Int × Int × SL × Unit) : M (((Int) × Unit) ⊕ ((Unit) ⊕ (((ByteArray) × (Int) × Unit) ⊕ (Unit)))) :=
 callV CC ⟨X, L⟩ x.2.1 [(.agg ⟨[(.int .i64 x7_.1), (.string x7_.2.1), (.string x7_.2.2.1), (.int .i64 x7_.2.2.2.1), (.int .i64 x7_.2.2.2.2.1), (.slice x7_.2.2.2.2.2.1.1 x7_.2.2.2.2.2.1.2.1 x7_.2.2.2.2.2.1.2.2)]⟩)] fun w9_ => M.need (RSh.prj (.tuple [(.cell .string), (.cell .bool)]) w9_) fun (r8_ : (ByteArray) × (Bool) × Unit) =>
 M.ite (!r8_.2.1)
 (M.pure (.inr (.inr (.inl (st0, 1, ())))))
 (M.guard (Nat.ble (r8_.1.size + st13.size) 9223372036854775807)
 (M.callS (.tuple [(.cell (.int .i64)), (.cell .val)]) (X (.call 34 [(.pointer (some (Addr.mk b0_ 0 none))), (.string (r8_.1 ++ st13))])) fun (r12_ : (Int) × (Value) × Unit) =>
 M.pure (.inl ((addW .i64 s2_.1 1), ()))))
def f18c1 (X : XT) (L : LoopI) (x : (SL) × (Value) × Unit) (b0_ : Nat) (s2_ : (Int) × Unit) (x5_ : Int × ByteArray × ByteArray × Int × Int × SL × Unit) : M (((Int) × Unit) ⊕ ((Unit) ⊕ (((ByteArray) × (Int) × Unit) ⊕ (Unit)))) :=
 M.new (.cells (Row.ofList [(.int .i64 0), (.string st0), (.string st0), (.int .i64 0), (.int .i64 0), (.slice none 0 0)]) 51 false (0, 0) false) fun b6_ =>
 M.store (Addr.mk b6_ 0 none) [(.int .i64 x5_.1), (.string x5_.2.1), (.string x5_.2.2.1), (.int .i64 x5_.2.2.2.1), (.int .i64 x5_.2.2.2.2.1), (.slice x5_.2.2.2.2.2.1.1 x5_.2.2.2.2.2.1.2.1 x5_.2.2.2.2.2.1.2.2)]
 (M.load (.agg [(.int .i64), .string, .string, (.int .i64), (.int .i64), .slice]) 6 (Addr.mk b6_ 0 none) fun (x7_ : Int × ByteArray × ByteArray × Int × Int × SL × Unit) =>
 f18c0 X L x b0_ s2_ x7_)
def f18c2 (X : XT) (L : LoopI) (x : (SL) × (Value) × Unit) (b0_ : Nat) (v1_ : Int) : M (Value) :=
 M.bind (L (σ := (Int) × Unit) (ρ := (Unit) ⊕ (((ByteArray) × (Int) × Unit) ⊕ (Unit))) (fun s2_ =>
 M.ite (ltB s2_.1 v1_)
 (M.guard (inB s2_.1 x.1.2.1)
 (M.deref x.1.1 fun a4_ =>
 M.load (.agg [(.int .i64), .string, .string, (.int .i64), (.int .i64), .slice]) 6 (a4_.add ((Int.toNat s2_.1) * 6)) fun (x5_ : Int × ByteArray × ByteArray × Int × Int × SL × Unit) =>
 f18c1 X L x b0_ s2_ x5_))
 (M.pure (.inr (.inl (()))))) (0, ())) <| M.sum (fun (j14_ : Unit) =>
 M.callS (.one (.cell (.int .i64))) (X (.call 35 [(.pointer (some (Addr.mk b0_ 0 none)))])) fun (r15_ : Int) =>
 M.ite (ltB 65536 r15_)
 (M.pure (.tuple ⟨[(.string st0), (.int .i64 3)]⟩))
 (M.callS (.one (.cell .string)) (X (.call 36 [(.pointer (some (Addr.mk b0_ 0 none)))])) fun (r17_ : ByteArray) =>
 M.pure (.tuple ⟨[(.string r17_), (.int .i64 0)]⟩))) (M.sum (fun (j18_ : (ByteArray) × (Int) × Unit) =>
 M.pure (.tuple ⟨[(.string j18_.1), (.int .i64 j18_.2.1)]⟩)) (fun _ => M.stuck))
def f18 (X : XT) (L : LoopI) (x : (SL) × (Value) × Unit) : M Value :=
 M.new (.cells (Row.ofList [(.pointer none), (.slice none 0 0)]) 85 false (0, 0) false) fun b0_ =>
 f18c2 X L x b0_ ((x.1.2.1 : Nat) : Int)

theorem e18 (X : XT) (L : LoopI) (x : (SL) × (Value) × Unit) : evBody CC { call := X, loop := L } 18 (shsInj [(.cell .slice), (.cell .val)] x) = f18 X L x := by kernel_rfl

/-- hayrick/shell.line -/
def f19c0 (X : XT) (L : LoopI) (b3_ : Nat) (b8_ : Nat) (x29_ : Bool) (s31_ : ByteArray) : M (Value) :=
 M.load (.cell .bool) 1 ((Addr.mk b3_ 0 none).add 4) fun (x32_ : Bool) => cond (veqv (.bool x32_) (.bool x29_)) (M.callS (.one (.cell .string)) (X (.call 26 [(.string s31_)])) fun (r33_ : ByteArray) =>
 M.load (.cell .bool) 1 ((Addr.mk b3_ 0 none).add 4) fun (x34_ : Bool) => cond (veqv (.bool x34_) (.bool x29_)) (M.callS (.tuple []) (X (.call 39 [(.bool x29_), (.string r33_), (.pointer (some (Addr.mk b8_ 0 none)))])) fun (r35_ : Unit) =>
 M.load (.cell .string) 1 (Addr.mk b8_ 0 none) fun (x36_ : ByteArray) =>
 M.pure (.tuple ⟨[(.string x36_), (.bool true)]⟩)) M.stuck) M.stuck
def f19c1 (X : XT) (L : LoopI) (b0_ : Nat) (b3_ : Nat) (b8_ : Nat) (x24_ : Bool) (x25_ : Int) : M (Value) :=
 M.callS (.one (.cell .string)) (X (.call 40 [(.int .i64 x25_)])) fun (r26_ : ByteArray) =>
 M.load (.cell .bool) 1 ((Addr.mk b3_ 0 none).add 3) fun (x27_ : Bool) => cond (veqv (.bool x27_) (.bool x24_)) (M.callS (.tuple []) (X (.call 39 [(.bool x24_), (.string r26_), (.pointer (some (Addr.mk b8_ 0 none)))])) fun (r28_ : Unit) =>
 M.load (.cell .bool) 1 ((Addr.mk b3_ 0 none).add 4) fun (x29_ : Bool) =>
 M.load (.cell .slice) 1 ((Addr.mk b0_ 0 none).add 5) fun (x30_ : SL) =>
 M.toStr x30_.1 x30_.2.1 fun s31_ =>
 f19c0 X L b3_ b8_ x29_ s31_) M.stuck
def f19c2 (X : XT) (L : LoopI) (b0_ : Nat) (b3_ : Nat) (b8_ : Nat) (x19_ : Bool) (x20_ : Int) : M (Value) :=
 M.callS (.one (.cell .string)) (X (.call 40 [(.int .i64 x20_)])) fun (r21_ : ByteArray) =>
 M.load (.cell .bool) 1 ((Addr.mk b3_ 0 none).add 2) fun (x22_ : Bool) => cond (veqv (.bool x22_) (.bool x19_)) (M.callS (.tuple []) (X (.call 39 [(.bool x19_), (.string r21_), (.pointer (some (Addr.mk b8_ 0 none)))])) fun (r23_ : Unit) =>
 M.load (.cell .bool) 1 ((Addr.mk b3_ 0 none).add 3) fun (x24_ : Bool) =>
 M.load (.cell (.int .i64)) 1 ((Addr.mk b0_ 0 none).add 4) fun (x25_ : Int) =>
 f19c1 X L b0_ b3_ b8_ x24_ x25_) M.stuck
def f19c3 (X : XT) (L : LoopI) (b0_ : Nat) (b3_ : Nat) (b8_ : Nat) (x14_ : Bool) (x15_ : ByteArray) : M (Value) :=
 M.callS (.one (.cell .string)) (X (.call 26 [(.string x15_)])) fun (r16_ : ByteArray) =>
 M.load (.cell .bool) 1 ((Addr.mk b3_ 0 none).add 1) fun (x17_ : Bool) => cond (veqv (.bool x17_) (.bool x14_)) (M.callS (.tuple []) (X (.call 39 [(.bool x14_), (.string r16_), (.pointer (some (Addr.mk b8_ 0 none)))])) fun (r18_ : Unit) =>
 M.load (.cell .bool) 1 ((Addr.mk b3_ 0 none).add 2) fun (x19_ : Bool) =>
 M.load (.cell (.int .i64)) 1 ((Addr.mk b0_ 0 none).add 3) fun (x20_ : Int) =>
 f19c2 X L b0_ b3_ b8_ x19_ x20_) M.stuck
def f19c4 (X : XT) (L : LoopI) (b0_ : Nat) (b3_ : Nat) (b8_ : Nat) (x9_ : Bool) (x10_ : ByteArray) : M (Value) :=
 M.callS (.one (.cell .string)) (X (.call 26 [(.string x10_)])) fun (r11_ : ByteArray) =>
 M.load (.cell .bool) 1 ((Addr.mk b3_ 0 none).add 0) fun (x12_ : Bool) => cond (veqv (.bool x12_) (.bool x9_)) (M.callS (.tuple []) (X (.call 39 [(.bool x9_), (.string r11_), (.pointer (some (Addr.mk b8_ 0 none)))])) fun (r13_ : Unit) =>
 M.load (.cell .bool) 1 ((Addr.mk b3_ 0 none).add 1) fun (x14_ : Bool) =>
 M.load (.cell .string) 1 ((Addr.mk b0_ 0 none).add 2) fun (x15_ : ByteArray) =>
 f19c3 X L b0_ b3_ b8_ x14_ x15_) M.stuck
def f19c5 (X : XT) (L : LoopI) (b0_ : Nat) (b3_ : Nat) (j4_ : (Bool) × Unit) : M (Value) :=
 M.ite j4_.1
 (M.pure (.tuple ⟨[(.string st0), (.bool false)]⟩))
 (M.load (.cell (.int .i64)) 1 ((Addr.mk b0_ 0 none).add 0) fun (x6_ : Int) =>
 M.callS (.one (.cell .string)) (X (.call 38 [(.int .i64 x6_)])) fun (r7_ : ByteArray) =>
 M.new (.cells (Row.ofList [(.string st0)]) 9 false (0, 0) false) fun b8_ =>
 M.store (Addr.mk b8_ 0 none) [(.string r7_)]
 (M.load (.cell .bool) 1 ((Addr.mk b3_ 0 none).add 0) fun (x9_ : Bool) =>
 M.load (.cell .string) 1 ((Addr.mk b0_ 0 none).add 1) fun (x10_ : ByteArray) =>
 f19c4 X L b0_ b3_ b8_ x9_ x10_))
def f19c6 (X : XT) (L : LoopI) (b0_ : Nat) (b3_ : Nat) (go5_ : ((Bool) × Unit) → M (Value)) (v53_ : Bool) : M (Value) :=
 M.ite v53_
 (M.load (.cell (.int .i64)) 1 ((Addr.mk b0_ 0 none).add 4) fun (x54_ : Int) =>
 M.ite (!(eqB x54_ 0))
 (go5_ (true, ()))
 (M.load (.cell .bool) 1 ((Addr.mk b3_ 0 none).add 4) fun (x56_ : Bool) =>
 M.ite (!x56_)
 (M.load (.cell .slice) 1 ((Addr.mk b0_ 0 none).add 5) fun (x58_ : SL) =>
 go5_ ((ltB 0 ((x58_.2.1 : Nat) : Int)), ()))
 (go5_ (false, ()))))
 (M.load (.cell .bool) 1 ((Addr.mk b3_ 0 none).add 4) fun (x61_ : Bool) =>
 M.ite (!x61_)
 (M.load (.cell .slice) 1 ((Addr.mk b0_ 0 none).add 5) fun (x63_ : SL) =>
 go5_ ((ltB 0 ((x63_.2.1 : Nat) : Int)), ()))
 (go5_ (false, ())))
def f19c7 (X : XT) (L : LoopI) (b0_ : Nat) (b3_ : Nat) (go5_ : ((Bool) × Unit) → M (Value)) (v67_ : Bool) : M (Value) :=
 M.ite v67_
 (M.load (.cell (.int .i64)) 1 ((Addr.mk b0_ 0 none).add 4) fun (x68_ : Int) =>
 M.ite (!(eqB x68_ 0))
 (go5_ (true, ()))
 (M.load (.cell .bool) 1 ((Addr.mk b3_ 0 none).add 4) fun (x70_ : Bool) =>
 M.ite (!x70_)
 (M.load (.cell .slice) 1 ((Addr.mk b0_ 0 none).add 5) fun (x72_ : SL) =>
 go5_ ((ltB 0 ((x72_.2.1 : Nat) : Int)), ()))
 (go5_ (false, ()))))
 (M.load (.cell .bool) 1 ((Addr.mk b3_ 0 none).add 4) fun (x75_ : Bool) =>
 M.ite (!x75_)
 (M.load (.cell .slice) 1 ((Addr.mk b0_ 0 none).add 5) fun (x77_ : SL) =>
 go5_ ((ltB 0 ((x77_.2.1 : Nat) : Int)), ()))
 (go5_ (false, ())))
def f19c8 (X : XT) (L : LoopI) (b0_ : Nat) (b3_ : Nat) (go5_ : ((Bool) × Unit) → M (Value)) : M (Value) :=
 M.load (.cell .string) 1 ((Addr.mk b0_ 0 none).add 2) fun (x46_ : ByteArray) =>
 M.ite (!(seq x46_ st0))
 (go5_ (true, ()))
 (M.load (.cell .bool) 1 ((Addr.mk b3_ 0 none).add 2) fun (x48_ : Bool) =>
 M.ite (!x48_)
 (M.load (.cell (.int .i64)) 1 ((Addr.mk b0_ 0 none).add 3) fun (x50_ : Int) =>
 M.ite (!(eqB x50_ 0))
 (go5_ (true, ()))
 (M.load (.cell .bool) 1 ((Addr.mk b3_ 0 none).add 3) fun (x52_ : Bool) =>
 f19c6 X L b0_ b3_ go5_ (!x52_)))
 (M.load (.cell .bool) 1 ((Addr.mk b3_ 0 none).add 3) fun (x66_ : Bool) =>
 f19c7 X L b0_ b3_ go5_ (!x66_)))
def f19c9 (X : XT) (L : LoopI) (b0_ : Nat) (b3_ : Nat) (go5_ : ((Bool) × Unit) → M (Value)) (v85_ : Bool) : M (Value) :=
 M.ite v85_
 (M.load (.cell (.int .i64)) 1 ((Addr.mk b0_ 0 none).add 4) fun (x86_ : Int) =>
 M.ite (!(eqB x86_ 0))
 (go5_ (true, ()))
 (M.load (.cell .bool) 1 ((Addr.mk b3_ 0 none).add 4) fun (x88_ : Bool) =>
 M.ite (!x88_)
 (M.load (.cell .slice) 1 ((Addr.mk b0_ 0 none).add 5) fun (x90_ : SL) =>
 go5_ ((ltB 0 ((x90_.2.1 : Nat) : Int)), ()))
 (go5_ (false, ()))))
 (M.load (.cell .bool) 1 ((Addr.mk b3_ 0 none).add 4) fun (x93_ : Bool) =>
 M.ite (!x93_)
 (M.load (.cell .slice) 1 ((Addr.mk b0_ 0 none).add 5) fun (x95_ : SL) =>
 go5_ ((ltB 0 ((x95_.2.1 : Nat) : Int)), ()))
 (go5_ (false, ())))
def f19c10 (X : XT) (L : LoopI) (b0_ : Nat) (b3_ : Nat) (go5_ : ((Bool) × Unit) → M (Value)) (v99_ : Bool) : M (Value) :=
 M.ite v99_
 (M.load (.cell (.int .i64)) 1 ((Addr.mk b0_ 0 none).add 4) fun (x100_ : Int) =>
 M.ite (!(eqB x100_ 0))
 (go5_ (true, ()))
 (M.load (.cell .bool) 1 ((Addr.mk b3_ 0 none).add 4) fun (x102_ : Bool) =>
 M.ite (!x102_)
 (M.load (.cell .slice) 1 ((Addr.mk b0_ 0 none).add 5) fun (x104_ : SL) =>
 go5_ ((ltB 0 ((x104_.2.1 : Nat) : Int)), ()))
 (go5_ (false, ()))))
 (M.load (.cell .bool) 1 ((Addr.mk b3_ 0 none).add 4) fun (x107_ : Bool) =>
 M.ite (!x107_)
 (M.load (.cell .slice) 1 ((Addr.mk b0_ 0 none).add 5) fun (x109_ : SL) =>
 go5_ ((ltB 0 ((x109_.2.1 : Nat) : Int)), ()))
 (go5_ (false, ())))
def f19c11 (X : XT) (L : LoopI) (b0_ : Nat) (b3_ : Nat) (go5_ : ((Bool) × Unit) → M (Value)) : M (Value) :=
 M.load (.cell .bool) 1 ((Addr.mk b3_ 0 none).add 1) fun (x44_ : Bool) =>
 M.ite (!x44_)
 (f19c8 X L b0_ b3_ go5_)
 (M.load (.cell .bool) 1 ((Addr.mk b3_ 0 none).add 2) fun (x80_ : Bool) =>
 M.ite (!x80_)
 (M.load (.cell (.int .i64)) 1 ((Addr.mk b0_ 0 none).add 3) fun (x82_ : Int) =>
 M.ite (!(eqB x82_ 0))
 (go5_ (true, ()))
 (M.load (.cell .bool) 1 ((Addr.mk b3_ 0 none).add 3) fun (x84_ : Bool) =>
 f19c9 X L b0_ b3_ go5_ (!x84_)))
 (M.load (.cell .bool) 1 ((Addr.mk b3_ 0 none).add 3) fun (x98_ : Bool) =>
 f19c10 X L b0_ b3_ go5_ (!x98_)))
def f19c12 (X : XT) (L : LoopI) (b0_ : Nat) (b3_ : Nat) (go5_ : ((Bool) × Unit) → M (Value)) (v121_ : Bool) : M (Value) :=
 M.ite v121_
 (M.load (.cell (.int .i64)) 1 ((Addr.mk b0_ 0 none).add 4) fun (x122_ : Int) =>
 M.ite (!(eqB x122_ 0))
 (go5_ (true, ()))
 (M.load (.cell .bool) 1 ((Addr.mk b3_ 0 none).add 4) fun (x124_ : Bool) =>
 M.ite (!x124_)
 (M.load (.cell .slice) 1 ((Addr.mk b0_ 0 none).add 5) fun (x126_ : SL) =>
 go5_ ((ltB 0 ((x126_.2.1 : Nat) : Int)), ()))
 (go5_ (false, ()))))
 (M.load (.cell .bool) 1 ((Addr.mk b3_ 0 none).add 4) fun (x129_ : Bool) =>
 M.ite (!x129_)
 (M.load (.cell .slice) 1 ((Addr.mk b0_ 0 none).add 5) fun (x131_ : SL) =>
 go5_ ((ltB 0 ((x131_.2.1 : Nat) : Int)), ()))
 (go5_ (false, ())))
def f19c13 (X : XT) (L : LoopI) (b0_ : Nat) (b3_ : Nat) (go5_ : ((Bool) × Unit) → M (Value)) (v135_ : Bool) : M (Value) :=
 M.ite v135_
 (M.load (.cell (.int .i64)) 1 ((Addr.mk b0_ 0 none).add 4) fun (x136_ : Int) =>
 M.ite (!(eqB x136_ 0))
 (go5_ (true, ()))
 (M.load (.cell .bool) 1 ((Addr.mk b3_ 0 none).add 4) fun (x138_ : Bool) =>
 M.ite (!x138_)
 (M.load (.cell .slice) 1 ((Addr.mk b0_ 0 none).add 5) fun (x140_ : SL) =>
 go5_ ((ltB 0 ((x140_.2.1 : Nat) : Int)), ()))
 (go5_ (false, ()))))
 (M.load (.cell .bool) 1 ((Addr.mk b3_ 0 none).add 4) fun (x143_ : Bool) =>
 M.ite (!x143_)
 (M.load (.cell .slice) 1 ((Addr.mk b0_ 0 none).add 5) fun (x145_ : SL) =>
 go5_ ((ltB 0 ((x145_.2.1 : Nat) : Int)), ()))
 (go5_ (false, ())))
def f19c14 (X : XT) (L : LoopI) (b0_ : Nat) (b3_ : Nat) (go5_ : ((Bool) × Unit) → M (Value)) : M (Value) :=
 M.load (.cell .string) 1 ((Addr.mk b0_ 0 none).add 2) fun (x114_ : ByteArray) =>
 M.ite (!(seq x114_ st0))
 (go5_ (true, ()))
 (M.load (.cell .bool) 1 ((Addr.mk b3_ 0 none).add 2) fun (x116_ : Bool) =>
 M.ite (!x116_)
 (M.load (.cell (.int .i64)) 1 ((Addr.mk b0_ 0 none).add 3) fun (x118_ : Int) =>
 M.ite (!(eqB x118_ 0))
 (go5_ (true, ()))
 (M.load (.cell .bool) 1 ((Addr.mk b3_ 0 none).add 3) fun (x120_ : Bool) =>
 f19c12 X L b0_ b3_ go5_ (!x120_)))
 (M.load (.cell .bool) 1 ((Addr.mk b3_ 0 none).add 3) fun (x134_ : Bool) =>
 f19c13 X L b0_ b3_ go5_ (!x134_)))
def f19c15 (X : XT) (L : LoopI) (b0_ : Nat) (b3_ : Nat) (go5_ : ((Bool) × Unit) → M (Value)) (v153_ : Bool) : M (Value) :=
 M.ite v153_
 (M.load (.cell (.int .i64)) 1 ((Addr.mk b0_ 0 none).add 4) fun (x154_ : Int) =>
 M.ite (!(eqB x154_ 0))
 (go5_ (true, ()))
 (M.load (.cell .bool) 1 ((Addr.mk b3_ 0 none).add 4) fun (x156_ : Bool) =>
 M.ite (!x156_)
 (M.load (.cell .slice) 1 ((Addr.mk b0_ 0 none).add 5) fun (x158_ : SL) =>
 go5_ ((ltB 0 ((x158_.2.1 : Nat) : Int)), ()))
 (go5_ (false, ()))))
 (M.load (.cell .bool) 1 ((Addr.mk b3_ 0 none).add 4) fun (x161_ : Bool) =>
 M.ite (!x161_)
 (M.load (.cell .slice) 1 ((Addr.mk b0_ 0 none).add 5) fun (x163_ : SL) =>
 go5_ ((ltB 0 ((x163_.2.1 : Nat) : Int)), ()))
 (go5_ (false, ())))
def f19c16 (X : XT) (L : LoopI) (b0_ : Nat) (b3_ : Nat) (go5_ : ((Bool) × Unit) → M (Value)) (v167_ : Bool) : M (Value) :=
 M.ite v167_
 (M.load (.cell (.int .i64)) 1 ((Addr.mk b0_ 0 none).add 4) fun (x168_ : Int) =>
 M.ite (!(eqB x168_ 0))
 (go5_ (true, ()))
 (M.load (.cell .bool) 1 ((Addr.mk b3_ 0 none).add 4) fun (x170_ : Bool) =>
 M.ite (!x170_)
 (M.load (.cell .slice) 1 ((Addr.mk b0_ 0 none).add 5) fun (x172_ : SL) =>
 go5_ ((ltB 0 ((x172_.2.1 : Nat) : Int)), ()))
 (go5_ (false, ()))))
 (M.load (.cell .bool) 1 ((Addr.mk b3_ 0 none).add 4) fun (x175_ : Bool) =>
 M.ite (!x175_)
 (M.load (.cell .slice) 1 ((Addr.mk b0_ 0 none).add 5) fun (x177_ : SL) =>
 go5_ ((ltB 0 ((x177_.2.1 : Nat) : Int)), ()))
 (go5_ (false, ())))
def f19c17 (X : XT) (L : LoopI) (b0_ : Nat) (b3_ : Nat) (go5_ : ((Bool) × Unit) → M (Value)) : M (Value) :=
 M.load (.cell .bool) 1 ((Addr.mk b3_ 0 none).add 1) fun (x112_ : Bool) =>
 M.ite (!x112_)
 (f19c14 X L b0_ b3_ go5_)
 (M.load (.cell .bool) 1 ((Addr.mk b3_ 0 none).add 2) fun (x148_ : Bool) =>
 M.ite (!x148_)
 (M.load (.cell (.int .i64)) 1 ((Addr.mk b0_ 0 none).add 3) fun (x150_ : Int) =>
 M.ite (!(eqB x150_ 0))
 (go5_ (true, ()))
 (M.load (.cell .bool) 1 ((Addr.mk b3_ 0 none).add 3) fun (x152_ : Bool) =>
 f19c15 X L b0_ b3_ go5_ (!x152_)))
 (M.load (.cell .bool) 1 ((Addr.mk b3_ 0 none).add 3) fun (x166_ : Bool) =>
 f19c16 X L b0_ b3_ go5_ (!x166_)))
def f19c18 (X : XT) (L : LoopI) (b0_ : Nat) (b3_ : Nat) : M (Value) :=
 M.join (fun (j4_ : (Bool) × Unit) =>
 f19c5 X L b0_ b3_ j4_) fun go5_ =>
 M.load (.cell (.int .i64)) 1 ((Addr.mk b0_ 0 none).add 0) fun (x37_ : Int) =>
 M.callS (.one (.cell .string)) (X (.call 38 [(.int .i64 x37_)])) fun (r38_ : ByteArray) =>
 M.ite (seq r38_ st0)
 (go5_ (true, ()))
 (M.load (.cell .bool) 1 ((Addr.mk b3_ 0 none).add 0) fun (x40_ : Bool) =>
 M.ite (!x40_)
 (M.load (.cell .string) 1 ((Addr.mk b0_ 0 none).add 1) fun (x42_ : ByteArray) =>
 M.ite (!(seq x42_ st0))
 (go5_ (true, ()))
 (f19c11 X L b0_ b3_ go5_))
 (f19c17 X L b0_ b3_ go5_))
def f19c19 (X : XT) (L : LoopI) (b0_ : Nat) : M (Value) :=
 M.load (.cell (.int .i64)) 1 ((Addr.mk b0_ 0 none).add 0) fun (x1_ : Int) =>
 M.callS (.one (.agg [.bool, .bool, .bool, .bool, .bool])) (X (.call 37 [(.int .i64 x1_)])) fun (r2_ : Bool × Bool × Bool × Bool × Bool × Unit) =>
 M.new (.cells (Row.ofList [(.bool false), (.bool false), (.bool false), (.bool false), (.bool false)]) 93 false (0, 0) false) fun b3_ =>
 M.store (Addr.mk b3_ 0 none) [(.bool r2_.1), (.bool r2_.2.1), (.bool r2_.2.2.1), (.bool r2_.2.2.2.1), (.bool r2_.2.2.2.2.1)]
 (f19c18 X L b0_ b3_)
def f19 (X : XT) (L : LoopI) (x : (Int × ByteArray × ByteArray × Int × Int × SL × Unit) × Unit) : M Value :=
 M.new (.cells (Row.ofList [(.int .i64 x.1.1), (.string x.1.2.1), (.string x.1.2.2.1), (.int .i64 x.1.2.2.2.1), (.int .i64 x.1.2.2.2.2.1), (.slice x.1.2.2.2.2.2.1.1 x.1.2.2.2.2.2.1.2.1 x.1.2.2.2.2.2.1.2.2)]) 51 false (0, 0) false) fun b0_ =>
 f19c19 X L b0_

theorem e19 (X : XT) (L : LoopI) (x : (Int × ByteArray × ByteArray × Int × Int × SL × Unit) × Unit) : evBody CC { call := X, loop := L } 19 (shsInj [(.agg [(.int .i64), .string, .string, (.int .i64), (.int .i64), .slice])] x) = f19 X L x := by kernel_rfl

/-- hayrick/hayrickref30.Line -/
def f20c0 (X : XT) (L : LoopI) (b0_ : Nat) (r2_ : (Bool) × (Bool) × (Bool) × (Bool) × (Bool) × Unit) (j13_ : (ByteArray) × Unit) : M (Value) :=
 M.join (fun (j15_ : (ByteArray) × Unit) =>
 M.pure (.tuple ⟨[(.string j15_.1), (.bool true)]⟩)) fun go16_ =>
 M.ite r2_.2.2.2.2.1
 (M.guard (Nat.ble (j13_.1.size + st14.size) 9223372036854775807)
 (let v17_ : ByteArray := j13_.1 ++ st14
 M.load (.cell .slice) 1 ((Addr.mk b0_ 0 none).add 5) fun (x18_ : SL) =>
 M.toStr x18_.1 x18_.2.1 fun s19_ =>
 M.callS (.one (.cell .string)) (X (.call 43 [(.string s19_)])) fun (r20_ : ByteArray) =>
 M.guard (Nat.ble (v17_.size + r20_.size) 9223372036854775807)
 (go16_ ((v17_ ++ r20_), ()))))
 (go16_ (j13_.1, ()))
def f20c1 (X : XT) (L : LoopI) (b0_ : Nat) (r2_ : (Bool) × (Bool) × (Bool) × (Bool) × (Bool) × Unit) (j9_ : (ByteArray) × Unit) : M (Value) :=
 M.join (fun (j11_ : (ByteArray) × Unit) =>
 M.join (fun (j13_ : (ByteArray) × Unit) =>
 f20c0 X L b0_ r2_ j13_) fun go14_ =>
 M.ite r2_.2.2.2.1
 (M.guard (Nat.ble (j11_.1.size + st14.size) 9223372036854775807)
 (let v22_ : ByteArray := j11_.1 ++ st14
 M.load (.cell (.int .i64)) 1 ((Addr.mk b0_ 0 none).add 4) fun (x23_ : Int) =>
 M.callS (.one (.cell .string)) (X (.call 44 [(.int .i64 x23_)])) fun (r24_ : ByteArray) =>
 M.guard (Nat.ble (v22_.size + r24_.size) 9223372036854775807)
 (go14_ ((v22_ ++ r24_), ()))))
 (go14_ (j11_.1, ()))) fun go12_ =>
 M.ite r2_.2.2.1
 (M.guard (Nat.ble (j9_.1.size + st14.size) 9223372036854775807)
 (let v26_ : ByteArray := j9_.1 ++ st14
 M.load (.cell (.int .i64)) 1 ((Addr.mk b0_ 0 none).add 3) fun (x27_ : Int) =>
 M.callS (.one (.cell .string)) (X (.call 44 [(.int .i64 x27_)])) fun (r28_ : ByteArray) =>
 M.guard (Nat.ble (v26_.size + r28_.size) 9223372036854775807)
 (go12_ ((v26_ ++ r28_), ()))))
 (go12_ (j9_.1, ()))
def f20c2 (X : XT) (L : LoopI) (b0_ : Nat) (r2_ : (Bool) × (Bool) × (Bool) × (Bool) × (Bool) × Unit) (r4_ : ByteArray) : M (Value) :=
 M.join (fun (j7_ : (ByteArray) × Unit) =>
 M.join (fun (j9_ : (ByteArray) × Unit) =>
 f20c1 X L b0_ r2_ j9_) fun go10_ =>
 M.ite r2_.2.1
 (M.guard (Nat.ble (j7_.1.size + st14.size) 9223372036854775807)
 (let v30_ : ByteArray := j7_.1 ++ st14
 M.load (.cell .string) 1 ((Addr.mk b0_ 0 none).add 2) fun (x31_ : ByteArray) =>
 M.callS (.one (.cell .string)) (X (.call 43 [(.string x31_)])) fun (r32_ : ByteArray) =>
 M.guard (Nat.ble (v30_.size + r32_.size) 9223372036854775807)
 (go10_ ((v30_ ++ r32_), ()))))
 (go10_ (j7_.1, ()))) fun go8_ =>
 M.ite r2_.1
 (M.guard (Nat.ble (r4_.size + st14.size) 9223372036854775807)
 (let v34_ : ByteArray := r4_ ++ st14
 M.load (.cell .string) 1 ((Addr.mk b0_ 0 none).add 1) fun (x35_ : ByteArray) =>
 M.callS (.one (.cell .string)) (X (.call 43 [(.string x35_)])) fun (r36_ : ByteArray) =>
 M.guard (Nat.ble (v34_.size + r36_.size) 9223372036854775807)
 (go8_ ((v34_ ++ r36_), ()))))
 (go8_ (r4_, ()))
def f20c3 (X : XT) (L : LoopI) (b0_ : Nat) (r2_ : (Bool) × (Bool) × (Bool) × (Bool) × (Bool) × Unit) (go6_ : ((Bool) × Unit) → M (Value)) (x46_ : Int) : M (Value) :=
 M.ite (!(eqB x46_ 0))
 (go6_ (true, ()))
 (M.ite (!r2_.2.2.2.1)
 (M.load (.cell (.int .i64)) 1 ((Addr.mk b0_ 0 none).add 4) fun (x49_ : Int) =>
 M.ite (!(eqB x49_ 0))
 (go6_ (true, ()))
 (M.ite (!r2_.2.2.2.2.1)
 (M.load (.cell .slice) 1 ((Addr.mk b0_ 0 none).add 5) fun (x52_ : SL) =>
 go6_ ((ltB 0 ((x52_.2.1 : Nat) : Int)), ()))
 (go6_ (false, ()))))
 (M.ite (!r2_.2.2.2.2.1)
 (M.load (.cell .slice) 1 ((Addr.mk b0_ 0 none).add 5) fun (x56_ : SL) =>
 go6_ ((ltB 0 ((x56_.2.1 : Nat) : Int)), ()))
 (go6_ (false, ()))))
def f20c4 (X : XT) (L : LoopI) (b0_ : Nat) (r2_ : (Bool) × (Bool) × (Bool) × (Bool) × (Bool) × Unit) (go6_ : ((Bool) × Unit) → M (Value)) (v45_ : Bool) : M (Value) :=
 M.ite v45_
 (M.load (.cell (.int .i64)) 1 ((Addr.mk b0_ 0 none).add 3) fun (x46_ : Int) =>
 f20c3 X L b0_ r2_ go6_ x46_)
 (M.ite (!r2_.2.2.2.1)
 (M.load (.cell (.int .i64)) 1 ((Addr.mk b0_ 0 none).add 4) fun (x60_ : Int) =>
 M.ite (!(eqB x60_ 0))
 (go6_ (true, ()))
 (M.ite (!r2_.2.2.2.2.1)
 (M.load (.cell .slice) 1 ((Addr.mk b0_ 0 none).add 5) fun (x63_ : SL) =>
 go6_ ((ltB 0 ((x63_.2.1 : Nat) : Int)), ()))
 (go6_ (false, ()))))
 (M.ite (!r2_.2.2.2.2.1)
 (M.load (.cell .slice) 1 ((Addr.mk b0_ 0 none).add 5) fun (x67_ : SL) =>
 go6_ ((ltB 0 ((x67_.2.1 : Nat) : Int)), ()))
 (go6_ (false, ()))))
def f20c5 (X : XT) (L : LoopI) (b0_ : Nat) (r2_ : (Bool) × (Bool) × (Bool) × (Bool) × (Bool) × Unit) (go6_ : ((Bool) × Unit) → M (Value)) (x71_ : Int) : M (Value) :=
 M.ite (!(eqB x71_ 0))
 (go6_ (true, ()))
 (M.ite (!r2_.2.2.2.1)
 (M.load (.cell (.int .i64)) 1 ((Addr.mk b0_ 0 none).add 4) fun (x74_ : Int) =>
 M.ite (!(eqB x74_ 0))
 (go6_ (true, ()))
 (M.ite (!r2_.2.2.2.2.1)
 (M.load (.cell .slice) 1 ((Addr.mk b0_ 0 none).add 5) fun (x77_ : SL) =>
 go6_ ((ltB 0 ((x77_.2.1 : Nat) : Int)), ()))
 (go6_ (false, ()))))
 (M.ite (!r2_.2.2.2.2.1)
 (M.load (.cell .slice) 1 ((Addr.mk b0_ 0 none).add 5) fun (x81_ : SL) =>
 go6_ ((ltB 0 ((x81_.2.1 : Nat) : Int)), ()))
 (go6_ (false, ()))))
def f20c6 (X : XT) (L : LoopI) (b0_ : Nat) (r2_ : (Bool) × (Bool) × (Bool) × (Bool) × (Bool) × Unit) (go6_ : ((Bool) × Unit) → M (Value)) (v70_ : Bool) : M (Value) :=
 M.ite v70_
 (M.load (.cell (.int .i64)) 1 ((Addr.mk b0_ 0 none).add 3) fun (x71_ : Int) =>
 f20c5 X L b0_ r2_ go6_ x71_)
 (M.ite (!r2_.2.2.2.1)
 (M.load (.cell (.int .i64)) 1 ((Addr.mk b0_ 0 none).add 4) fun (x85_ : Int) =>
 M.ite (!(eqB x85_ 0))
 (go6_ (true, ()))
 (M.ite (!r2_.2.2.2.2.1)
 (M.load (.cell .slice) 1 ((Addr.mk b0_ 0 none).add 5) fun (x88_ : SL) =>
 go6_ ((ltB 0 ((x88_.2.1 : Nat) : Int)), ()))
 (go6_ (false, ()))))
 (M.ite (!r2_.2.2.2.2.1)
 (M.load (.cell .slice) 1 ((Addr.mk b0_ 0 none).add 5) fun (x92_ : SL) =>
 go6_ ((ltB 0 ((x92_.2.1 : Nat) : Int)), ()))
 (go6_ (false, ()))))
def f20c7 (X : XT) (L : LoopI) (b0_ : Nat) (r2_ : (Bool) × (Bool) × (Bool) × (Bool) × (Bool) × Unit) (go6_ : ((Bool) × Unit) → M (Value)) (v100_ : Bool) : M (Value) :=
 M.ite v100_
 (go6_ (true, ()))
 (M.ite (!r2_.2.2.2.1)
 (M.load (.cell (.int .i64)) 1 ((Addr.mk b0_ 0 none).add 4) fun (x102_ : Int) =>
 M.ite (!(eqB x102_ 0))
 (go6_ (true, ()))
 (M.ite (!r2_.2.2.2.2.1)
 (M.load (.cell .slice) 1 ((Addr.mk b0_ 0 none).add 5) fun (x105_ : SL) =>
 go6_ ((ltB 0 ((x105_.2.1 : Nat) : Int)), ()))
 (go6_ (false, ()))))
 (M.ite (!r2_.2.2.2.2.1)
 (M.load (.cell .slice) 1 ((Addr.mk b0_ 0 none).add 5) fun (x109_ : SL) =>
 go6_ ((ltB 0 ((x109_.2.1 : Nat) : Int)), ()))
 (go6_ (false, ()))))
def f20c8 (X : XT) (L : LoopI) (b0_ : Nat) (r2_ : (Bool) × (Bool) × (Bool) × (Bool) × (Bool) × Unit) (go6_ : ((Bool) × Unit) → M (Value)) (v98_ : Bool) : M (Value) :=
 M.ite v98_
 (M.load (.cell (.int .i64)) 1 ((Addr.mk b0_ 0 none).add 3) fun (x99_ : Int) =>
 f20c7 X L b0_ r2_ go6_ (!(eqB x99_ 0)))
 (M.ite (!r2_.2.2.2.1)
 (M.load (.cell (.int .i64)) 1 ((Addr.mk b0_ 0 none).add 4) fun (x113_ : Int) =>
 M.ite (!(eqB x113_ 0))
 (go6_ (true, ()))
 (M.ite (!r2_.2.2.2.2.1)
 (M.load (.cell .slice) 1 ((Addr.mk b0_ 0 none).add 5) fun (x116_ : SL) =>
 go6_ ((ltB 0 ((x116_.2.1 : Nat) : Int)), ()))
 (go6_ (false, ()))))
 (M.ite (!r2_.2.2.2.2.1)
 (M.load (.cell .slice) 1 ((Addr.mk b0_ 0 none).add 5) fun (x120_ : SL) =>
 go6_ ((ltB 0 ((x120_.2.1 : Nat) : Int)), ()))
 (go6_ (false, ()))))
def f20c9 (X : XT) (L : LoopI) (b0_ : Nat) (r2_ : (Bool) × (Bool) × (Bool) × (Bool) × (Bool) × Unit) (go6_ : ((Bool) × Unit) → M (Value)) (v125_ : Bool) : M (Value) :=
 M.ite v125_
 (go6_ (true, ()))
 (M.ite (!r2_.2.2.2.1)
 (M.load (.cell (.int .i64)) 1 ((Addr.mk b0_ 0 none).add 4) fun (x127_ : Int) =>
 M.ite (!(eqB x127_ 0))
 (go6_ (true, ()))
 (M.ite (!r2_.2.2.2.2.1)
 (M.load (.cell .slice) 1 ((Addr.mk b0_ 0 none).add 5) fun (x130_ : SL) =>
 go6_ ((ltB 0 ((x130_.2.1 : Nat) : Int)), ()))
 (go6_ (false, ()))))
 (M.ite (!r2_.2.2.2.2.1)
 (M.load (.cell .slice) 1 ((Addr.mk b0_ 0 none).add 5) fun (x134_ : SL) =>
 go6_ ((ltB 0 ((x134_.2.1 : Nat) : Int)), ()))
 (go6_ (false, ()))))
def f20c10 (X : XT) (L : LoopI) (b0_ : Nat) (r2_ : (Bool) × (Bool) × (Bool) × (Bool) × (Bool) × Unit) (go6_ : ((Bool) × Unit) → M (Value)) (v123_ : Bool) : M (Value) :=
 M.ite v123_
 (M.load (.cell (.int .i64)) 1 ((Addr.mk b0_ 0 none).add 3) fun (x124_ : Int) =>
 f20c9 X L b0_ r2_ go6_ (!(eqB x124_ 0)))
 (M.ite (!r2_.2.2.2.1)
 (M.load (.cell (.int .i64)) 1 ((Addr.mk b0_ 0 none).add 4) fun (x138_ : Int) =>
 M.ite (!(eqB x138_ 0))
 (go6_ (true, ()))
 (M.ite (!r2_.2.2.2.2.1)
 (M.load (.cell .slice) 1 ((Addr.mk b0_ 0 none).add 5) fun (x141_ : SL) =>
 go6_ ((ltB 0 ((x141_.2.1 : Nat) : Int)), ()))
 (go6_ (false, ()))))
 (M.ite (!r2_.2.2.2.2.1)
 (M.load (.cell .slice) 1 ((Addr.mk b0_ 0 none).add 5) fun (x145_ : SL) =>
 go6_ ((ltB 0 ((x145_.2.1 : Nat) : Int)), ()))
 (go6_ (false, ()))))
def f20c11 (X : XT) (L : LoopI) (b0_ : Nat) (r2_ : (Bool) × (Bool) × (Bool) × (Bool) × (Bool) × Unit) (go6_ : ((Bool) × Unit) → M (Value)) (v39_ : Bool) : M (Value) :=
 M.ite v39_
 (M.load (.cell .string) 1 ((Addr.mk b0_ 0 none).add 1) fun (x40_ : ByteArray) =>
 M.ite (!(seq x40_ st0))
 (go6_ (true, ()))
 (M.ite (!r2_.2.1)
 (M.load (.cell .string) 1 ((Addr.mk b0_ 0 none).add 2) fun (x43_ : ByteArray) =>
 M.ite (!(seq x43_ st0))
 (go6_ (true, ()))
 (f20c4 X L b0_ r2_ go6_ (!r2_.2.2.1)))
 (f20c6 X L b0_ r2_ go6_ (!r2_.2.2.1))))
 (M.ite (!r2_.2.1)
 (M.load (.cell .string) 1 ((Addr.mk b0_ 0 none).add 2) fun (x96_ : ByteArray) =>
 M.ite (!(seq x96_ st0))
 (go6_ (true, ()))
 (f20c8 X L b0_ r2_ go6_ (!r2_.2.2.1)))
 (f20c10 X L b0_ r2_ go6_ (!r2_.2.2.1)))
def f20c12 (X : XT) (L : LoopI) (b0_ : Nat) (x1_ : Int) : M (Value) :=
 M.callS (.tuple [(.cell .bool), (.cell .bool), (.cell .bool), (.cell .bool), (.cell .bool)]) (X (.call 41 [(.int .i64 x1_)])) fun (r2_ : (Bool) × (Bool) × (Bool) × (Bool) × (Bool) × Unit) =>
 M.load (.cell (.int .i64)) 1 ((Addr.mk b0_ 0 none).add 0) fun (x3_ : Int) =>
 M.callS (.one (.cell .string)) (X (.call 42 [(.int .i64 x3_)])) fun (r4_ : ByteArray) =>
 M.join (fun (j5_ : (Bool) × Unit) =>
 M.ite j5_.1
 (M.pure (.tuple ⟨[(.string st0), (.bool false)]⟩))
 (f20c2 X L b0_ r2_ r4_)) fun go6_ =>
 M.ite (seq r4_ st0)
 (go6_ (true, ()))
 (f20c11 X L b0_ r2_ go6_ (!r2_.1))
def f20 (X : XT) (L : LoopI) (x : (Int × ByteArray × ByteArray × Int × Int × SL × Unit) × Unit) : M Value :=
 M.new (.cells (Row.ofList [(.int .i64 x.1.1), (.string x.1.2.1), (.string x.1.2.2.1), (.int .i64 x.1.2.2.2.1), (.int .i64 x.1.2.2.2.2.1), (.slice x.1.2.2.2.2.2.1.1 x.1.2.2.2.2.2.1.2.1 x.1.2.2.2.2.2.1.2.2)]) 55 false (0, 0) false) fun b0_ =>
 M.load (.cell (.int .i64)) 1 ((Addr.mk b0_ 0 none).add 0) fun (x1_ : Int) =>
 f20c12 X L b0_ x1_

theorem e20 (X : XT) (L : LoopI) (x : (Int × ByteArray × ByteArray × Int × Int × SL × Unit) × Unit) : evBody CC { call := X, loop := L } 20 (shsInj [(.agg [(.int .i64), .string, .string, (.int .i64), (.int .i64), .slice])] x) = f20 X L x := by kernel_rfl

/-- hayrick/shell.parsed[hayrick/world.Event] -/
def f21c0 (X : XT) (L : LoopI) (s2_ : (ByteArray) × (SL) × (Int) × Unit) (r4_ : (ByteArray) × (ByteArray) × (Bool) × Unit) (b7_ : Nat) : M (((ByteArray) × (SL) × (Int) × Unit) ⊕ (((SL) × Unit) ⊕ (((SL) × (Int) × (Int) × Unit) ⊕ (Unit)))) :=
 M.load (.agg [(.int .i64), .string, .string, (.int .i64), (.int .i64), .slice]) 6 (Addr.mk b7_ 0 none) fun (x10_ : Int × ByteArray × ByteArray × Int × Int × SL × Unit) =>
 M.new (.cells (Row.ofList [(.int .i64 x10_.1), (.string x10_.2.1), (.string x10_.2.2.1), (.int .i64 x10_.2.2.2.1), (.int .i64 x10_.2.2.2.2.1), (.slice x10_.2.2.2.2.2.1.1 x10_.2.2.2.2.2.1.2.1 x10_.2.2.2.2.2.1.2.2)]) 51 false (0, 0) false) fun b11_ =>
 M.append 51 6 80 s2_.2.1.1 s2_.2.1.2.1 s2_.2.1.2.2 (.slice (some (Addr.mk b11_ 0 none)) 1 1) fun a12_ n13_ c14_ =>
 M.pure (.inl (r4_.2.1, (a12_, n13_, c14_), (addW .i64 s2_.2.2.1 1), ()))
def f21c1 (X : XT) (L : LoopI) (s2_ : (ByteArray) × (SL) × (Int) × Unit) (r4_ : (ByteArray) × (ByteArray) × (Bool) × Unit) (r5_ : (Int × ByteArray × ByteArray × Int × Int × SL × Unit) × (Bool) × Unit) : M (((ByteArray) × (SL) × (Int) × Unit) ⊕ (((SL) × Unit) ⊕ (((SL) × (Int) × (Int) × Unit) ⊕ (Unit)))) :=
 M.new (.cells (Row.ofList [(.int .i64 0), (.string st0), (.string st0), (.int .i64 0), (.int .i64 0), (.slice none 0 0)]) 51 false (0, 0) false) fun b7_ =>
 M.store (Addr.mk b7_ 0 none) [(.int .i64 r5_.1.1), (.string r5_.1.2.1), (.string r5_.1.2.2.1), (.int .i64 r5_.1.2.2.2.1), (.int .i64 r5_.1.2.2.2.2.1), (.slice r5_.1.2.2.2.2.2.1.1 r5_.1.2.2.2.2.2.1.2.1 r5_.1.2.2.2.2.2.1.2.2)]
 (M.join (fun (j8_ : (Bool) × Unit) =>
 M.ite j8_.1
 (M.pure (.inr (.inr (.inl ((none, 0, 0), s2_.2.2.1, 5, ())))))
 (f21c0 X L s2_ r4_ b7_)) fun go9_ =>
 M.ite (!r4_.2.2.1)
 (go9_ (true, ()))
 (go9_ ((!r5_.2.1), ())))
def f21c2 (X : XT) (L : LoopI) (x : (ByteArray) × (Value) × Unit) (s2_ : (ByteArray) × (SL) × (Int) × Unit) : M (((ByteArray) × (SL) × (Int) × Unit) ⊕ (((SL) × Unit) ⊕ (((SL) × (Int) × (Int) × Unit) ⊕ (Unit)))) :=
 M.ite (!(seq s2_.1 st0))
 (M.callS (.tuple [(.cell .string), (.cell .string), (.cell .bool)]) (X (.call 45 [(.string s2_.1), (.string st13)])) fun (r4_ : (ByteArray) × (ByteArray) × (Bool) × Unit) =>
 callV CC ⟨X, L⟩ x.2.1 [(.string r4_.1)] fun w6_ => M.need (RSh.prj (.tuple [(.agg [(.int .i64), .string, .string, (.int .i64), (.int .i64), .slice]), (.cell .bool)]) w6_) fun (r5_ : (Int × ByteArray × ByteArray × Int × Int × SL × Unit) × (Bool) × Unit) =>
 f21c1 X L s2_ r4_ r5_)
 (M.pure (.inr (.inl (s2_.2.1, ()))))
def f21c3 (X : XT) (L : LoopI) (x : (ByteArray) × (Value) × Unit) (v1_ : Bool) : M (Value) :=
 M.ite v1_
 (M.pure (.tuple ⟨[(.slice none 0 0), (.int .i64 0), (.int .i64 3)]⟩))
 (M.bind (L (σ := (ByteArray) × (SL) × (Int) × Unit) (ρ := ((SL) × Unit) ⊕ (((SL) × (Int) × (Int) × Unit) ⊕ (Unit))) (fun s2_ =>
 f21c2 X L x s2_) (x.1, (none, 0, 0), 1, ())) <| M.sum (fun (j18_ : (SL) × Unit) =>
 M.pure (.tuple ⟨[(.slice j18_.1.1 j18_.1.2.1 j18_.1.2.2), (.int .i64 0), (.int .i64 0)]⟩)) (M.sum (fun (j19_ : (SL) × (Int) × (Int) × Unit) =>
 M.pure (.tuple ⟨[(.slice j19_.1.1 j19_.1.2.1 j19_.1.2.2), (.int .i64 j19_.2.1), (.int .i64 j19_.2.2.1)]⟩)) (fun _ => M.stuck)))
def f21 (X : XT) (L : LoopI) (x : (ByteArray) × (Value) × Unit) : M Value :=
 f21c3 X L x (ltB 65536 ((x.1.size : Nat) : Int))

theorem e21 (X : XT) (L : LoopI) (x : (ByteArray) × (Value) × Unit) : evBody CC { call := X, loop := L } 21 (shsInj [(.cell .string), (.cell .val)] x) = f21 X L x := by kernel_rfl

/-- hayrick/shell.event -/
def f22c0 (X : XT) (L : LoopI) (x : (ByteArray) × Unit) (b0_ : Nat) (r20_ : (ByteArray) × (Bool) × Unit) (go22_ : ((Bool) × Unit) → M (Value)) (x24_ : Int × ByteArray × ByteArray × Int × Int × SL × Unit) : M (Value) :=
 M.ite r20_.2.1
 (M.store (Addr.mk b0_ 0 none) [(.int .i64 x24_.1), (.string x24_.2.1), (.string x24_.2.2.1), (.int .i64 x24_.2.2.2.1), (.int .i64 x24_.2.2.2.2.1), (.slice x24_.2.2.2.2.2.1.1 x24_.2.2.2.2.2.1.2.1 x24_.2.2.2.2.2.1.2.2)]
 (go22_ ((seq r20_.1 x.1), ())))
 (M.store (Addr.mk b0_ 0 none) [(.int .i64 x24_.1), (.string x24_.2.1), (.string x24_.2.2.1), (.int .i64 x24_.2.2.2.1), (.int .i64 x24_.2.2.2.2.1), (.slice x24_.2.2.2.2.2.1.1 x24_.2.2.2.2.2.1.2.1 x24_.2.2.2.2.2.1.2.2)]
 (go22_ (false, ())))
def f22c1 (X : XT) (L : LoopI) (x : (ByteArray) × Unit) (b0_ : Nat) (b2_ : Nat) (r20_ : (ByteArray) × (Bool) × Unit) (go22_ : ((Bool) × Unit) → M (Value)) (x24_ : Int × ByteArray × ByteArray × Int × Int × SL × Unit) (v28_ : Bool) : M (Value) :=
 M.ite v28_
 (M.load (.cell .ptr) 1 (Addr.mk b2_ 0 none) fun (x29_ : PA) =>
 M.deref x29_ fun a30_ =>
 M.load (.cell .string) 1 (a30_.add 0) fun (x31_ : ByteArray) =>
 M.ite (seq x31_ st0)
 (f22c0 X L x b0_ r20_ go22_ x24_)
 (M.store (Addr.mk b0_ 0 none) [(.int .i64 x24_.1), (.string x24_.2.1), (.string x24_.2.2.1), (.int .i64 x24_.2.2.2.1), (.int .i64 x24_.2.2.2.2.1), (.slice x24_.2.2.2.2.2.1.1 x24_.2.2.2.2.2.1.2.1 x24_.2.2.2.2.2.1.2.2)]
 (go22_ (false, ()))))
 (M.store (Addr.mk b0_ 0 none) [(.int .i64 x24_.1), (.string x24_.2.1), (.string x24_.2.2.1), (.int .i64 x24_.2.2.2.1), (.int .i64 x24_.2.2.2.2.1), (.slice x24_.2.2.2.2.2.1.1 x24_.2.2.2.2.2.1.2.1 x24_.2.2.2.2.2.1.2.2)]
 (go22_ (false, ())))
def f22c2 (X : XT) (L : LoopI) (x : (ByteArray) × Unit) (b0_ : Nat) (b2_ : Nat) (b5_ : Nat) (r20_ : (ByteArray) × (Bool) × Unit) : M (Value) :=
 M.join (fun (j21_ : (Bool) × Unit) =>
 M.load (.agg [(.int .i64), .string, .string, (.int .i64), (.int .i64), .slice]) 6 (Addr.mk b0_ 0 none) fun (x23_ : Int × ByteArray × ByteArray × Int × Int × SL × Unit) =>
 M.pure (.tuple ⟨[(.agg ⟨[(.int .i64 x23_.1), (.string x23_.2.1), (.string x23_.2.2.1), (.int .i64 x23_.2.2.2.1), (.int .i64 x23_.2.2.2.2.1), (.slice x23_.2.2.2.2.2.1.1 x23_.2.2.2.2.2.1.2.1 x23_.2.2.2.2.2.1.2.2)]⟩), (.bool j21_.1)]⟩)) fun go22_ =>
 M.load (.agg [(.int .i64), .string, .string, (.int .i64), (.int .i64), .slice]) 6 (Addr.mk b5_ 0 none) fun (x24_ : Int × ByteArray × ByteArray × Int × Int × SL × Unit) =>
 M.load (.cell .ptr) 1 (Addr.mk b2_ 0 none) fun (x25_ : PA) =>
 M.deref x25_ fun a26_ =>
 M.load (.cell .bool) 1 (a26_.add 1) fun (x27_ : Bool) =>
 f22c1 X L x b0_ b2_ r20_ go22_ x24_ (!x27_)
def f22c3 (X : XT) (L : LoopI) (x : (ByteArray) × Unit) (b0_ : Nat) (b2_ : Nat) (b5_ : Nat) : M (Value) :=
 M.load (.agg [(.int .i64), .string, .string, (.int .i64), (.int .i64), .slice]) 6 (Addr.mk b5_ 0 none) fun (x19_ : Int × ByteArray × ByteArray × Int × Int × SL × Unit) =>
 M.callS (.tuple [(.cell .string), (.cell .bool)]) (X (.call 19 [(.agg ⟨[(.int .i64 x19_.1), (.string x19_.2.1), (.string x19_.2.2.1), (.int .i64 x19_.2.2.2.1), (.int .i64 x19_.2.2.2.2.1), (.slice x19_.2.2.2.2.2.1.1 x19_.2.2.2.2.2.1.2.1 x19_.2.2.2.2.2.1.2.2)]⟩)])) fun (r20_ : (ByteArray) × (Bool) × Unit) =>
 f22c2 X L x b0_ b2_ b5_ r20_
def f22c4 (X : XT) (L : LoopI) (x : (ByteArray) × Unit) (b0_ : Nat) (b2_ : Nat) (b5_ : Nat) (b8_ : Nat) (x15_ : Bool) : M (Value) :=
 M.callS (.tuple []) (X (.call 47 [(.bool x15_), (.func (.func 53) ⟨[]⟩ ⟨[(.pointer (some (Addr.mk b2_ 0 none))), (.pointer (some (Addr.mk b5_ 0 none)))]⟩), (.pointer (some (Addr.mk b2_ 0 none)))])) fun (r16_ : Unit) =>
 M.load (.cell .bool) 1 ((Addr.mk b8_ 0 none).add 4) fun (x17_ : Bool) =>
 M.callS (.tuple []) (X (.call 47 [(.bool x17_), (.func (.func 54) ⟨[]⟩ ⟨[(.pointer (some (Addr.mk b2_ 0 none))), (.pointer (some (Addr.mk b5_ 0 none)))]⟩), (.pointer (some (Addr.mk b2_ 0 none)))])) fun (r18_ : Unit) =>
 f22c3 X L x b0_ b2_ b5_
def f22c5 (X : XT) (L : LoopI) (x : (ByteArray) × Unit) (b0_ : Nat) (b2_ : Nat) (b5_ : Nat) (b8_ : Nat) (x11_ : Bool) : M (Value) :=
 M.callS (.tuple []) (X (.call 47 [(.bool x11_), (.func (.func 50) ⟨[]⟩ ⟨[(.pointer (some (Addr.mk b2_ 0 none))), (.pointer (some (Addr.mk b5_ 0 none)))]⟩), (.pointer (some (Addr.mk b2_ 0 none)))])) fun (r12_ : Unit) =>
 M.load (.cell .bool) 1 ((Addr.mk b8_ 0 none).add 2) fun (x13_ : Bool) =>
 M.callS (.tuple []) (X (.call 47 [(.bool x13_), (.func (.func 51) ⟨[]⟩ ⟨[(.pointer (some (Addr.mk b2_ 0 none))), (.pointer (some (Addr.mk b5_ 0 none)))]⟩), (.pointer (some (Addr.mk b2_ 0 none)))])) fun (r14_ : Unit) =>
 M.load (.cell .bool) 1 ((Addr.mk b8_ 0 none).add 3) fun (x15_ : Bool) =>
 f22c4 X L x b0_ b2_ b5_ b8_ x15_
def f22c6 (X : XT) (L : LoopI) (x : (ByteArray) × Unit) (b0_ : Nat) (b2_ : Nat) (b5_ : Nat) (r7_ : Bool × Bool × Bool × Bool × Bool × Unit) (b8_ : Nat) : M (Value) :=
 M.store (Addr.mk b8_ 0 none) [(.bool r7_.1), (.bool r7_.2.1), (.bool r7_.2.2.1), (.bool r7_.2.2.2.1), (.bool r7_.2.2.2.2.1)]
 (M.load (.cell .bool) 1 ((Addr.mk b8_ 0 none).add 0) fun (x9_ : Bool) =>
 M.callS (.tuple []) (X (.call 47 [(.bool x9_), (.func (.func 48) ⟨[]⟩ ⟨[(.pointer (some (Addr.mk b2_ 0 none))), (.pointer (some (Addr.mk b5_ 0 none)))]⟩), (.pointer (some (Addr.mk b2_ 0 none)))])) fun (r10_ : Unit) =>
 M.load (.cell .bool) 1 ((Addr.mk b8_ 0 none).add 1) fun (x11_ : Bool) =>
 f22c5 X L x b0_ b2_ b5_ b8_ x11_)
def f22c7 (X : XT) (L : LoopI) (x : (ByteArray) × Unit) (b0_ : Nat) (b2_ : Nat) (r4_ : Int) (b5_ : Nat) : M (Value) :=
 M.store (Addr.mk b5_ 0 none) [(.int .i64 r4_), (.string st0), (.string st0), (.int .i64 0), (.int .i64 0), (.slice none 0 0)]
 (M.load (.cell (.int .i64)) 1 ((Addr.mk b5_ 0 none).add 0) fun (x6_ : Int) =>
 M.callS (.one (.agg [.bool, .bool, .bool, .bool, .bool])) (X (.call 37 [(.int .i64 x6_)])) fun (r7_ : Bool × Bool × Bool × Bool × Bool × Unit) =>
 M.new (.cells (Row.ofList [(.bool false), (.bool false), (.bool false), (.bool false), (.bool false)]) 93 false (0, 0) false) fun b8_ =>
 f22c6 X L x b0_ b2_ b5_ r7_ b8_)
def f22c8 (X : XT) (L : LoopI) (x : (ByteArray) × Unit) (b0_ : Nat) : M (Value) :=
 M.new (.cells (Row.ofList [(.string x.1), (.bool false)]) 103 false (0, 0) false) fun b1_ =>
 M.new (.cells (Row.ofList [(.pointer none)]) 101 false (0, 0) false) fun b2_ =>
 M.store (Addr.mk b2_ 0 none) [(.pointer (some (Addr.mk b1_ 0 none)))]
 (M.load (.cell .ptr) 1 (Addr.mk b2_ 0 none) fun (x3_ : PA) =>
 M.callS (.one (.cell (.int .i64))) (X (.call 46 [(.pointer x3_)])) fun (r4_ : Int) =>
 M.new (.cells (Row.ofList [(.int .i64 0), (.string st0), (.string st0), (.int .i64 0), (.int .i64 0), (.slice none 0 0)]) 51 false (0, 0) false) fun b5_ =>
 f22c7 X L x b0_ b2_ r4_ b5_)
def f22 (X : XT) (L : LoopI) (x : (ByteArray) × Unit) : M Value :=
 M.new (.cells (Row.ofList [(.int .i64 0), (.string st0), (.string st0), (.int .i64 0), (.int .i64 0), (.slice none 0 0)]) 51 false (0, 0) false) fun b0_ =>
 f22c8 X L x b0_

theorem e22 (X : XT) (L : LoopI) (x : (ByteArray) × Unit) : evBody CC { call := X, loop := L } 22 (shsInj [(.cell .string)] x) = f22 X L x := by kernel_rfl

/-- hayrick/hayrickref30.lines -/
def f23c0 (X : XT) (L : LoopI) (x : (ByteArray) × Unit) (s0_ : (SL) × (Int) × (Int) × Unit) : M (((SL) × (Int) × (Int) × Unit) ⊕ (((SL) × (Int) × Unit) ⊕ (Unit))) :=
 M.join (fun (j3_ : (SL) × (Int) × Unit) =>
 M.pure (.inl (j3_.1, j3_.2.1, (addW .i64 s0_.2.2.1 1), ()))) fun go4_ =>
 M.guard (inB s0_.2.2.1 x.1.size)
 (M.ite (eqB (byteAt x.1 s0_.2.2.1) 10)
 (M.guard (upB s0_.2.2.1 x.1.size)
 (let v8_ : Nat := (Int.toNat s0_.2.2.1)
 M.guard (upB s0_.2.1 v8_)
 (M.new (.cells (Row.ofList [(.string (x.1.extract (Int.toNat s0_.2.1) v8_))]) 9 false (0, 0) false) fun b11_ =>
 M.append 9 1 16 s0_.1.1 s0_.1.2.1 s0_.1.2.2 (.slice (some (Addr.mk b11_ 0 none)) 1 1) fun a12_ n13_ c14_ =>
 go4_ ((a12_, n13_, c14_), (addW .i64 s0_.2.2.1 1), ()))))
 (go4_ (s0_.1, s0_.2.1, ())))
def f23c1 (X : XT) (L : LoopI) (x : (ByteArray) × Unit) : M (Value) :=
 M.bind (L (σ := (SL) × (Int) × (Int) × Unit) (ρ := ((SL) × (Int) × Unit) ⊕ (Unit)) (fun s0_ =>
 M.ite (ltB s0_.2.2.1 ((x.1.size : Nat) : Int))
 (f23c0 X L x s0_)
 (M.pure (.inr (.inl (s0_.1, s0_.2.1, ()))))) ((none, 0, 0), 0, 0, ())) <| M.sum (fun (j16_ : (SL) × (Int) × Unit) =>
 M.ite (ltB j16_.2.1 ((x.1.size : Nat) : Int))
 (M.guard (upB j16_.2.1 x.1.size)
 (M.new (.cells (Row.ofList [(.string (x.1.extract (Int.toNat j16_.2.1) x.1.size))]) 9 false (0, 0) false) fun b21_ =>
 M.append 9 1 16 j16_.1.1 j16_.1.2.1 j16_.1.2.2 (.slice (some (Addr.mk b21_ 0 none)) 1 1) fun a22_ n23_ c24_ =>
 M.pure (.tuple ⟨[(.slice a22_ n23_ c24_), (.bool false)]⟩)))
 (M.pure (.tuple ⟨[(.slice j16_.1.1 j16_.1.2.1 j16_.1.2.2), (.bool true)]⟩))) (fun _ => M.stuck)
def f23 (X : XT) (L : LoopI) (x : (ByteArray) × Unit) : M Value :=
 f23c1 X L x

theorem e23 (X : XT) (L : LoopI) (x : (ByteArray) × Unit) : evBody CC { call := X, loop := L } 23 (shsInj [(.cell .string)] x) = f23 X L x := by kernel_rfl

/-- hayrick/hayrickref30.Event -/
def f24c0 (X : XT) (L : LoopI) (b0_ : Nat) (b1_ : Nat) (go17_ : ((Bool) × Unit) → M (Value)) (x19_ : Int × ByteArray × ByteArray × Int × Int × SL × Unit) (v21_ : Bool) : M (Value) :=
 M.ite v21_
 (M.load (.cell .string) 1 ((Addr.mk b1_ 0 none).add 0) fun (x22_ : ByteArray) =>
 M.store (Addr.mk b0_ 0 none) [(.int .i64 x19_.1), (.string x19_.2.1), (.string x19_.2.2.1), (.int .i64 x19_.2.2.2.1), (.int .i64 x19_.2.2.2.2.1), (.slice x19_.2.2.2.2.2.1.1 x19_.2.2.2.2.2.1.2.1 x19_.2.2.2.2.2.1.2.2)]
 (M.load (.cell .string) 1 ((Addr.mk b1_ 0 none).add 0) fun (x24_ : ByteArray) => cond (veqv (.string x24_) (.string x22_)) (go17_ ((seq x22_ st0), ())) M.stuck))
 (M.store (Addr.mk b0_ 0 none) [(.int .i64 x19_.1), (.string x19_.2.1), (.string x19_.2.2.1), (.int .i64 x19_.2.2.2.1), (.int .i64 x19_.2.2.2.2.1), (.slice x19_.2.2.2.2.2.1.1 x19_.2.2.2.2.2.1.2.1 x19_.2.2.2.2.2.1.2.2)]
 (go17_ (false, ())))
def f24c1 (X : XT) (L : LoopI) (b0_ : Nat) (b1_ : Nat) (b3_ : Nat) : M (Value) :=
 M.join (fun (j16_ : (Bool) × Unit) =>
 M.load (.agg [(.int .i64), .string, .string, (.int .i64), (.int .i64), .slice]) 6 (Addr.mk b0_ 0 none) fun (x18_ : Int × ByteArray × ByteArray × Int × Int × SL × Unit) =>
 M.pure (.tuple ⟨[(.agg ⟨[(.int .i64 x18_.1), (.string x18_.2.1), (.string x18_.2.2.1), (.int .i64 x18_.2.2.2.1), (.int .i64 x18_.2.2.2.2.1), (.slice x18_.2.2.2.2.2.1.1 x18_.2.2.2.2.2.1.2.1 x18_.2.2.2.2.2.1.2.2)]⟩), (.bool j16_.1)]⟩)) fun go17_ =>
 M.load (.agg [(.int .i64), .string, .string, (.int .i64), (.int .i64), .slice]) 6 (Addr.mk b3_ 0 none) fun (x19_ : Int × ByteArray × ByteArray × Int × Int × SL × Unit) =>
 M.load (.cell .bool) 1 ((Addr.mk b1_ 0 none).add 1) fun (x20_ : Bool) =>
 f24c0 X L b0_ b1_ go17_ x19_ (!x20_)
def f24c2 (X : XT) (L : LoopI) (b0_ : Nat) (b1_ : Nat) (b3_ : Nat) (r5_ : (Bool) × (Bool) × (Bool) × (Bool) × (Bool) × Unit) : M (Value) :=
 M.join (fun (j14_ : Unit) =>
 f24c1 X L b0_ b1_ b3_) fun go15_ =>
 M.join (fun (j25_ : (Bool) × Unit) =>
 M.ite j25_.1
 (M.callS (.one (.cell .string)) (X (.call 56 [(.pointer (some (Addr.mk b1_ 0 none)))])) fun (r27_ : ByteArray) =>
 M.ofStr 5 r27_ fun a28_ n29_ c30_ =>
 M.store ((Addr.mk b3_ 0 none).add 5) [(.slice a28_ n29_ c30_)]
 (go15_ (())))
 (go15_ (()))) fun go26_ =>
 M.ite r5_.2.2.2.2.1
 (M.load (.cell .bool) 1 ((Addr.mk b1_ 0 none).add 1) fun (x31_ : Bool) =>
 go26_ ((!x31_), ()))
 (go26_ (false, ()))
def f24c3 (X : XT) (L : LoopI) (b0_ : Nat) (b1_ : Nat) (b3_ : Nat) (r5_ : (Bool) × (Bool) × (Bool) × (Bool) × (Bool) × Unit) : M (Value) :=
 M.join (fun (j10_ : Unit) =>
 M.join (fun (j12_ : Unit) =>
 f24c2 X L b0_ b1_ b3_ r5_) fun go13_ =>
 M.join (fun (j33_ : (Bool) × Unit) =>
 M.ite j33_.1
 (M.callS (.one (.cell (.int .i64))) (X (.call 57 [(.pointer (some (Addr.mk b1_ 0 none)))])) fun (r35_ : Int) =>
 M.store ((Addr.mk b3_ 0 none).add 4) [(.int .i64 r35_)]
 (go13_ (())))
 (go13_ (()))) fun go34_ =>
 M.ite r5_.2.2.2.1
 (M.load (.cell .bool) 1 ((Addr.mk b1_ 0 none).add 1) fun (x36_ : Bool) =>
 go34_ ((!x36_), ()))
 (go34_ (false, ()))) fun go11_ =>
 M.join (fun (j38_ : (Bool) × Unit) =>
 M.ite j38_.1
 (M.callS (.one (.cell (.int .i64))) (X (.call 57 [(.pointer (some (Addr.mk b1_ 0 none)))])) fun (r40_ : Int) =>
 M.store ((Addr.mk b3_ 0 none).add 3) [(.int .i64 r40_)]
 (go11_ (())))
 (go11_ (()))) fun go39_ =>
 M.ite r5_.2.2.1
 (M.load (.cell .bool) 1 ((Addr.mk b1_ 0 none).add 1) fun (x41_ : Bool) =>
 go39_ ((!x41_), ()))
 (go39_ (false, ()))
def f24c4 (X : XT) (L : LoopI) (b0_ : Nat) (b1_ : Nat) (b3_ : Nat) (r5_ : (Bool) × (Bool) × (Bool) × (Bool) × (Bool) × Unit) : M (Value) :=
 M.join (fun (j6_ : Unit) =>
 M.join (fun (j8_ : Unit) =>
 f24c3 X L b0_ b1_ b3_ r5_) fun go9_ =>
 M.join (fun (j43_ : (Bool) × Unit) =>
 M.ite j43_.1
 (M.callS (.one (.cell .string)) (X (.call 56 [(.pointer (some (Addr.mk b1_ 0 none)))])) fun (r45_ : ByteArray) =>
 M.store ((Addr.mk b3_ 0 none).add 2) [(.string r45_)]
 (go9_ (())))
 (go9_ (()))) fun go44_ =>
 M.ite r5_.2.1
 (M.load (.cell .bool) 1 ((Addr.mk b1_ 0 none).add 1) fun (x46_ : Bool) =>
 go44_ ((!x46_), ()))
 (go44_ (false, ()))) fun go7_ =>
 M.join (fun (j48_ : (Bool) × Unit) =>
 M.ite j48_.1
 (M.callS (.one (.cell .string)) (X (.call 56 [(.pointer (some (Addr.mk b1_ 0 none)))])) fun (r50_ : ByteArray) =>
 M.store ((Addr.mk b3_ 0 none).add 1) [(.string r50_)]
 (go7_ (())))
 (go7_ (()))) fun go49_ =>
 M.ite r5_.1
 (M.load (.cell .bool) 1 ((Addr.mk b1_ 0 none).add 1) fun (x51_ : Bool) =>
 go49_ ((!x51_), ()))
 (go49_ (false, ()))
def f24c5 (X : XT) (L : LoopI) (b0_ : Nat) (b1_ : Nat) (r2_ : Int) : M (Value) :=
 M.new (.cells (Row.ofList [(.int .i64 0), (.string st0), (.string st0), (.int .i64 0), (.int .i64 0), (.slice none 0 0)]) 55 false (0, 0) false) fun b3_ =>
 M.store (Addr.mk b3_ 0 none) [(.int .i64 r2_), (.string st0), (.string st0), (.int .i64 0), (.int .i64 0), (.slice none 0 0)]
 (M.load (.cell (.int .i64)) 1 ((Addr.mk b3_ 0 none).add 0) fun (x4_ : Int) =>
 M.callS (.tuple [(.cell .bool), (.cell .bool), (.cell .bool), (.cell .bool), (.cell .bool)]) (X (.call 41 [(.int .i64 x4_)])) fun (r5_ : (Bool) × (Bool) × (Bool) × (Bool) × (Bool) × Unit) =>
 f24c4 X L b0_ b1_ b3_ r5_)
def f24 (X : XT) (L : LoopI) (x : (ByteArray) × Unit) : M Value :=
 M.new (.cells (Row.ofList [(.int .i64 0), (.string st0), (.string st0), (.int .i64 0), (.int .i64 0), (.slice none 0 0)]) 55 false (0, 0) false) fun b0_ =>
 M.new (.cells (Row.ofList [(.string x.1), (.bool false)]) 107 false (0, 0) false) fun b1_ =>
 M.callS (.one (.cell (.int .i64))) (X (.call 55 [(.pointer (some (Addr.mk b1_ 0 none)))])) fun (r2_ : Int) =>
 f24c5 X L b0_ b1_ r2_

theorem e24 (X : XT) (L : LoopI) (x : (ByteArray) × Unit) : evBody CC { call := X, loop := L } 24 (shsInj [(.cell .string)] x) = f24 X L x := by kernel_rfl

/-- hayrick/shell.Unquote -/
def f25c0 (X : XT) (L : LoopI) (s8_ : (SL) × (ByteArray) × Unit) (go11_ : ((SL) × (Int) × Unit) → M (((SL) × (ByteArray) × Unit) ⊕ (((SL) × Unit) ⊕ (((ByteArray) × (ByteArray) × (Bool) × Unit) ⊕ (Unit))))) (r18_ : Int) (r19_ : Int) : M (((SL) × (ByteArray) × Unit) ⊕ (((SL) × Unit) ⊕ (((ByteArray) × (ByteArray) × (Bool) × Unit) ⊕ (Unit)))) :=
 M.join (fun (j20_ : (Bool) × Unit) =>
 M.ite j20_.1
 (M.pure (.inr (.inr (.inl (st0, st0, false, ())))))
 (M.guard (decide (0 ≤ 4))
 (M.new (.cells (Row.ofList [(.int .u8 (wrapW .u8 (orW .i64 (IntKind.i64.wrap (r18_ * 2 ^ (min (Int.toNat 4) IntKind.i64.bits))) r19_)))]) 5 false (0, 0) false) fun b25_ =>
 M.append 5 1 1 s8_.1.1 s8_.1.2.1 s8_.1.2.2 (.slice (some (Addr.mk b25_ 0 none)) 1 1) fun a26_ n27_ c28_ =>
 go11_ ((a26_, n27_, c28_), 4, ())))) fun go21_ =>
 M.ite (ltB r18_ 0)
 (go21_ (true, ()))
 (go21_ ((ltB r19_ 0), ()))
def f25c1 (X : XT) (L : LoopI) (s8_ : (SL) × (ByteArray) × Unit) (go11_ : ((SL) × (Int) × Unit) → M (((SL) × (ByteArray) × Unit) ⊕ (((SL) × Unit) ⊕ (((ByteArray) × (ByteArray) × (Bool) × Unit) ⊕ (Unit))))) (j31_ : (Bool) × Unit) : M (((SL) × (ByteArray) × Unit) ⊕ (((SL) × Unit) ⊕ (((ByteArray) × (ByteArray) × (Bool) × Unit) ⊕ (Unit)))) :=
 M.ite j31_.1
 (M.guard (inB 1 s8_.2.1.size)
 (M.new (.cells (Row.ofList [(.int .u8 (byteAt s8_.2.1 1))]) 5 false (0, 0) false) fun b34_ =>
 M.append 5 1 1 s8_.1.1 s8_.1.2.1 s8_.1.2.2 (.slice (some (Addr.mk b34_ 0 none)) 1 1) fun a35_ n36_ c37_ =>
 go11_ ((a35_, n36_, c37_), 2, ())))
 (M.guard (inB 0 s8_.2.1.size)
 (M.new (.cells (Row.ofList [(.int .u8 (byteAt s8_.2.1 0))]) 5 false (0, 0) false) fun b39_ =>
 M.append 5 1 1 s8_.1.1 s8_.1.2.1 s8_.1.2.2 (.slice (some (Addr.mk b39_ 0 none)) 1 1) fun a40_ n41_ c42_ =>
 go11_ ((a40_, n41_, c42_), 1, ())))
def f25c2 (X : XT) (L : LoopI) (s8_ : (SL) × (ByteArray) × Unit) (go11_ : ((SL) × (Int) × Unit) → M (((SL) × (ByteArray) × Unit) ⊕ (((SL) × Unit) ⊕ (((ByteArray) × (ByteArray) × (Bool) × Unit) ⊕ (Unit))))) (j14_ : (Bool) × Unit) : M (((SL) × (ByteArray) × Unit) ⊕ (((SL) × Unit) ⊕ (((ByteArray) × (ByteArray) × (Bool) × Unit) ⊕ (Unit)))) :=
 M.ite j14_.1
 (M.guard (inB 2 s8_.2.1.size)
 (M.guard (inB 3 s8_.2.1.size)
 (M.callS (.one (.cell (.int .i64))) (X (.call 60 [(.string st15), (.int .u8 (byteAt s8_.2.1 2))])) fun (r18_ : Int) =>
 M.callS (.one (.cell (.int .i64))) (X (.call 60 [(.string st15), (.int .u8 (byteAt s8_.2.1 3))])) fun (r19_ : Int) =>
 f25c0 X L s8_ go11_ r18_ r19_)))
 (M.join (fun (j31_ : (Bool) × Unit) =>
 f25c1 X L s8_ go11_ j31_) fun go32_ =>
 M.guard (inB 0 s8_.2.1.size)
 (M.ite (eqB (byteAt s8_.2.1 0) 92)
 (go32_ ((leB 2 ((s8_.2.1.size : Nat) : Int)), ()))
 (go32_ (false, ()))))
def f25c3 (X : XT) (L : LoopI) (x : (ByteArray) × Unit) (r0_ : Int) (v3_ : ByteArray) (v7_ : ByteArray) : M (Value) :=
 M.bind (L (σ := (SL) × (ByteArray) × Unit) (ρ := ((SL) × Unit) ⊕ (((ByteArray) × (ByteArray) × (Bool) × Unit) ⊕ (Unit))) (fun s8_ =>
 M.ite (!(seq s8_.2.1 st0))
 (M.join (fun (j10_ : (SL) × (Int) × Unit) =>
 M.guard (upB j10_.2.1 s8_.2.1.size)
 (M.pure (.inl (j10_.1, (s8_.2.1.extract (Int.toNat j10_.2.1) s8_.2.1.size), ())))) fun go11_ =>
 M.join (fun (j14_ : (Bool) × Unit) =>
 f25c2 X L s8_ go11_ j14_) fun go15_ =>
 M.callS (.one (.cell .bool)) (X (.call 59 [(.string s8_.2.1), (.string st16)])) fun (r47_ : Bool) =>
 M.ite r47_
 (go15_ ((leB 4 ((s8_.2.1.size : Nat) : Int)), ()))
 (go15_ (false, ())))
 (M.pure (.inr (.inl (s8_.1, ()))))) ((none, 0, 0), v7_, ())) <| M.sum (fun (j50_ : (SL) × Unit) =>
 M.toStr j50_.1.1 j50_.1.2.1 fun s51_ =>
 M.callS (.one (.cell .string)) (X (.call 26 [(.string s51_)])) fun (r52_ : ByteArray) =>
 M.ite (!(seq r52_ v3_))
 (M.pure (.tuple ⟨[(.string st0), (.string st0), (.bool false)]⟩))
 (M.guard (upB r0_ x.1.size)
 (M.toStr j50_.1.1 j50_.1.2.1 fun s56_ =>
 M.pure (.tuple ⟨[(.string s56_), (.string (x.1.extract (Int.toNat r0_) x.1.size)), (.bool true)]⟩)))) (M.sum (fun (j57_ : (ByteArray) × (ByteArray) × (Bool) × Unit) =>
 M.pure (.tuple ⟨[(.string j57_.1), (.string j57_.2.1), (.bool j57_.2.2.1)]⟩)) (fun _ => M.stuck))
def f25 (X : XT) (L : LoopI) (x : (ByteArray) × Unit) : M Value :=
 M.callS (.one (.cell (.int .i64))) (X (.call 58 [(.string x.1)])) fun (r0_ : Int) =>
 M.ite (ltB r0_ 0)
 (M.pure (.tuple ⟨[(.string st0), (.string st0), (.bool false)]⟩))
 (M.guard (upB r0_ x.1.size)
 (let v3_ : ByteArray := x.1.extract 0 (Int.toNat r0_)
 let v4_ : Int := subW .i64 r0_ 1
 M.guard (upB v4_ v3_.size)
 (let v5_ : Nat := (Int.toNat v4_)
 M.guard (upB 1 v5_)
 (f25c3 X L x r0_ v3_ (v3_.extract (Int.toNat 1) v5_)))))

theorem e25 (X : XT) (L : LoopI) (x : (ByteArray) × Unit) : evBody CC { call := X, loop := L } 25 (shsInj [(.cell .string)] x) = f25 X L x := by kernel_rfl

/-- hayrick/shell.Quote -/
def f26c0 (X : XT) (L : LoopI) (x : (ByteArray) × Unit) (b0_ : Nat) (i4_ : Int) (go10_ : (Unit) → M ((Unit) ⊕ ((Unit) ⊕ (Unit)))) (v15_ : Int) : M ((Unit) ⊕ ((Unit) ⊕ (Unit))) :=
 M.guard (inB i4_ x.1.size)
 (let v17_ : Int := andW .u8 (byteAt x.1 i4_) 15
 M.guard (inB v17_ st15.size)
 (M.new (.cells (Row.ofList [(.int .u8 v15_), (.int .u8 (byteAt st15 v17_))]) 5 false (0, 0) false) fun b19_ =>
 M.toStr (some (Addr.mk b19_ 0 none)) 2 fun s20_ =>
 M.guard (Nat.ble (st16.size + s20_.size) 9223372036854775807)
 (M.callS (.tuple [(.cell (.int .i64)), (.cell .val)]) (X (.call 34 [(.pointer (some (Addr.mk b0_ 0 none))), (.string (st16 ++ s20_))])) fun (r22_ : (Int) × (Value) × Unit) =>
 go10_ (()))))
def f26c1 (X : XT) (L : LoopI) (b0_ : Nat) (c5_ : Int) (go10_ : (Unit) → M ((Unit) ⊕ ((Unit) ⊕ (Unit)))) : M ((Unit) ⊕ ((Unit) ⊕ (Unit))) :=
 M.join (fun (j23_ : (Bool) × Unit) =>
 M.ite j23_.1
 (M.callS (.one (.cell .val)) (X (.call 61 [(.pointer (some (Addr.mk b0_ 0 none))), (.int .u8 92)])) fun (r25_ : Value) =>
 M.callS (.tuple [(.cell (.int .i64)), (.cell .val)]) (X (.call 64 [(.pointer (some (Addr.mk b0_ 0 none))), (.int .i32 c5_)])) fun (r26_ : (Int) × (Value) × Unit) =>
 go10_ (()))
 (M.callS (.tuple [(.cell (.int .i64)), (.cell .val)]) (X (.call 64 [(.pointer (some (Addr.mk b0_ 0 none))), (.int .i32 c5_)])) fun (r27_ : (Int) × (Value) × Unit) =>
 go10_ (()))) fun go24_ =>
 M.ite (eqB c5_ 34)
 (go24_ (true, ()))
 (go24_ ((eqB c5_ 92), ()))
def f26c2 (X : XT) (L : LoopI) (x : (ByteArray) × Unit) (b0_ : Nat) (i4_ : Int) (c5_ : Int) (r8_ : (Int) × (Int) × Unit) (go10_ : (Unit) → M ((Unit) ⊕ ((Unit) ⊕ (Unit)))) : M ((Unit) ⊕ ((Unit) ⊕ (Unit))) :=
 M.join (fun (j11_ : (Bool) × Unit) =>
 M.ite j11_.1
 (M.guard (inB i4_ x.1.size)
 (M.guard (decide (0 ≤ 4))
 (let v14_ : Int := (((byteAt x.1 i4_) : Int)).fdiv (2 ^ (min (Int.toNat 4) IntKind.u8.bits))
 M.guard (inB v14_ st15.size)
 (f26c0 X L x b0_ i4_ go10_ (byteAt st15 v14_)))))
 (f26c1 X L b0_ c5_ go10_)) fun go12_ =>
 M.ite (ltB c5_ 32)
 (go12_ (true, ()))
 (M.ite (eqB c5_ 127)
 (go12_ (true, ()))
 (let v32_ : Int := addW .i64 i4_ r8_.2.1
 M.guard (upB v32_ x.1.size)
 (let v33_ : Nat := (Int.toNat v32_)
 M.guard (upB i4_ v33_)
 (M.callS (.one (.cell .bool)) (X (.call 63 [(.string (x.1.extract (Int.toNat i4_) v33_))])) fun (r36_ : Bool) =>
 go12_ ((!r36_), ())))))
def f26c3 (X : XT) (L : LoopI) (x : (ByteArray) × Unit) (b0_ : Nat) (b2_ : Nat) : M (Value) :=
 M.bind (L (σ := Unit) (ρ := (Unit) ⊕ (Unit)) (fun s3_ =>
 M.next b2_
 (M.pure (.inr (.inl (())))) fun i4_ c5_ =>
 M.guard (upB i4_ x.1.size)
 (M.callS (.tuple [(.cell (.int .i32)), (.cell (.int .i64))]) (X (.call 62 [(.string (x.1.extract (Int.toNat i4_) x.1.size))])) fun (r8_ : (Int) × (Int) × Unit) =>
 M.join (fun (j9_ : Unit) =>
 M.pure (.inl (()))) fun go10_ =>
 f26c2 X L x b0_ i4_ c5_ r8_ go10_)) (())) <| M.sum (fun (j38_ : Unit) =>
 M.callS (.one (.cell .val)) (X (.call 61 [(.pointer (some (Addr.mk b0_ 0 none))), (.int .u8 34)])) fun (r39_ : Value) =>
 M.callS (.one (.cell .string)) (X (.call 36 [(.pointer (some (Addr.mk b0_ 0 none)))])) fun (r40_ : ByteArray) =>
 M.pure (.string r40_)) (fun _ => M.stuck)
def f26 (X : XT) (L : LoopI) (x : (ByteArray) × Unit) : M Value :=
 M.new (.cells (Row.ofList [(.pointer none), (.slice none 0 0)]) 85 false (0, 0) false) fun b0_ =>
 M.callS (.one (.cell .val)) (X (.call 61 [(.pointer (some (Addr.mk b0_ 0 none))), (.int .u8 34)])) fun (r1_ : Value) =>
 M.new (.iter x.1 0) fun b2_ =>
 f26c3 X L x b0_ b2_

theorem e26 (X : XT) (L : LoopI) (x : (ByteArray) × Unit) : evBody CC { call := X, loop := L } 26 (shsInj [(.cell .string)] x) = f26 X L x := by kernel_rfl

/-- hayrick/shell.written[hayrick/world.Row] -/
def f27c0 (X : XT) (L : LoopI) (x : (SL) × (Value) × Unit) (b0_ : Nat) (s2_ : (Int) × Unit) (x7_ : Int × Int × Bool × SL × Int × Int × Int × Int × SL × Unit) : M (((Int) × Unit) ⊕ ((Unit) ⊕ (((ByteArray) × (Int) × Unit) ⊕ (Unit)))) :=
 callV CC ⟨X, L⟩ x.2.1 [(.agg ⟨[(.int .i64 x7_.1), (.int .i64 x7_.2.1), (.bool x7_.2.2.1), (.slice x7_.2.2.2.1.1 x7_.2.2.2.1.2.1 x7_.2.2.2.1.2.2), (.int .i64 x7_.2.2.2.2.1), (.int .i64 x7_.2.2.2.2.2.1), (.int .i64 x7_.2.2.2.2.2.2.1), (.int .i64 x7_.2.2.2.2.2.2.2.1), (.slice x7_.2.2.2.2.2.2.2.2.1.1 x7_.2.2.2.2.2.2.2.2.1.2.1 x7_.2.2.2.2.2.2.2.2.1.2.2)]⟩)] fun w9_ => M.need (RSh.prj (.tuple [(.cell .string), (.cell .bool)]) w9_) fun (r8_ : (ByteArray) × (Bool) × Unit) =>
 M.ite (!r8_.2.1)
 (M.pure (.inr (.inr (.inl (st0, 1, ())))))
 (M.guard (Nat.ble (r8_.1.size + st13.size) 9223372036854775807)
 (M.callS (.tuple [(.cell (.int .i64)), (.cell .val)]) (X (.call 34 [(.pointer (some (Addr.mk b0_ 0 none))), (.string (r8_.1 ++ st13))])) fun (r12_ : (Int) × (Value) × Unit) =>
 M.pure (.inl ((addW .i64 s2_.1 1), ()))))
def f27c1 (X : XT) (L : LoopI) (x : (SL) × (Value) × Unit) (b0_ : Nat) (s2_ : (Int) × Unit) (x5_ : Int × Int × Bool × SL × Int × Int × Int × Int × SL × Unit) (b6_ : Nat) : M (((Int) × Unit) ⊕ ((Unit) ⊕ (((ByteArray) × (Int) × Unit) ⊕ (Unit)))) :=
 M.store (Addr.mk b6_ 0 none) [(.int .i64 x5_.1), (.int .i64 x5_.2.1), (.bool x5_.2.2.1), (.slice x5_.2.2.2.1.1 x5_.2.2.2.1.2.1 x5_.2.2.2.1.2.2), (.int .i64 x5_.2.2.2.2.1), (.int .i64 x5_.2.2.2.2.2.1), (.int .i64 x5_.2.2.2.2.2.2.1), (.int .i64 x5_.2.2.2.2.2.2.2.1), (.slice x5_.2.2.2.2.2.2.2.2.1.1 x5_.2.2.2.2.2.2.2.2.1.2.1 x5_.2.2.2.2.2.2.2.2.1.2.2)]
 (M.load (.agg [(.int .i64), (.int .i64), .bool, .slice, (.int .i64), (.int .i64), (.int .i64), (.int .i64), .slice]) 9 (Addr.mk b6_ 0 none) fun (x7_ : Int × Int × Bool × SL × Int × Int × Int × Int × SL × Unit) =>
 f27c0 X L x b0_ s2_ x7_)
def f27c2 (X : XT) (L : LoopI) (x : (SL) × (Value) × Unit) (b0_ : Nat) (s2_ : (Int) × Unit) : M (((Int) × Unit) ⊕ ((Unit) ⊕ (((ByteArray) × (Int) × Unit) ⊕ (Unit)))) :=
 M.guard (inB s2_.1 x.1.2.1)
 (M.deref x.1.1 fun a4_ =>
 M.load (.agg [(.int .i64), (.int .i64), .bool, .slice, (.int .i64), (.int .i64), (.int .i64), (.int .i64), .slice]) 9 (a4_.add ((Int.toNat s2_.1) * 9)) fun (x5_ : Int × Int × Bool × SL × Int × Int × Int × Int × SL × Unit) =>
 M.new (.cells (Row.ofList [(.int .i64 0), (.int .i64 0), (.bool false), (.slice none 0 0), (.int .i64 0), (.int .i64 0), (.int .i64 0), (.int .i64 0), (.slice none 0 0)]) 69 false (0, 0) false) fun b6_ =>
 f27c1 X L x b0_ s2_ x5_ b6_)
def f27c3 (X : XT) (L : LoopI) (x : (SL) × (Value) × Unit) (b0_ : Nat) (v1_ : Int) : M (Value) :=
 M.bind (L (σ := (Int) × Unit) (ρ := (Unit) ⊕ (((ByteArray) × (Int) × Unit) ⊕ (Unit))) (fun s2_ =>
 M.ite (ltB s2_.1 v1_)
 (f27c2 X L x b0_ s2_)
 (M.pure (.inr (.inl (()))))) (0, ())) <| M.sum (fun (j14_ : Unit) =>
 M.callS (.one (.cell (.int .i64))) (X (.call 35 [(.pointer (some (Addr.mk b0_ 0 none)))])) fun (r15_ : Int) =>
 M.ite (ltB 65536 r15_)
 (M.pure (.tuple ⟨[(.string st0), (.int .i64 3)]⟩))
 (M.callS (.one (.cell .string)) (X (.call 36 [(.pointer (some (Addr.mk b0_ 0 none)))])) fun (r17_ : ByteArray) =>
 M.pure (.tuple ⟨[(.string r17_), (.int .i64 0)]⟩))) (M.sum (fun (j18_ : (ByteArray) × (Int) × Unit) =>
 M.pure (.tuple ⟨[(.string j18_.1), (.int .i64 j18_.2.1)]⟩)) (fun _ => M.stuck))
def f27 (X : XT) (L : LoopI) (x : (SL) × (Value) × Unit) : M Value :=
 M.new (.cells (Row.ofList [(.pointer none), (.slice none 0 0)]) 85 false (0, 0) false) fun b0_ =>
 f27c3 X L x b0_ ((x.1.2.1 : Nat) : Int)

theorem e27 (X : XT) (L : LoopI) (x : (SL) × (Value) × Unit) : evBody CC { call := X, loop := L } 27 (shsInj [(.cell .slice), (.cell .val)] x) = f27 X L x := by kernel_rfl

/-- hayrick/shell.rowLine -/
def f28c0 (X : XT) (L : LoopI) (b0_ : Nat) (j3_ : (ByteArray) × Unit) (v6_ : Bool) (go10_ : ((ByteArray) × (Bool) × Unit) → M (Value)) : M (Value) :=
 M.load (.cell .bool) 1 ((Addr.mk b0_ 0 none).add 2) fun (x11_ : Bool) =>
 M.ite (!x11_)
 (go10_ (j3_.1, true, ()))
 (M.ite v6_
 (M.load (.cell (.int .i64)) 1 ((Addr.mk b0_ 0 none).add 0) fun (x13_ : Int) =>
 M.ite (eqB x13_ 15)
 (go10_ (j3_.1, true, ()))
 (M.load (.cell (.int .i64)) 1 ((Addr.mk b0_ 0 none).add 0) fun (x15_ : Int) =>
 M.load (.cell (.int .i64)) 1 ((Addr.mk b0_ 0 none).add 0) fun (x17_ : Int) => cond (veqv (.int .i64 x17_) (.int .i64 x15_)) (go10_ (j3_.1, (eqB x15_ 16), ())) M.stuck))
 (go10_ (j3_.1, false, ())))
def f28c1 (X : XT) (L : LoopI) (b0_ : Nat) (v6_ : Bool) (go8_ : ((Bool) × Unit) → M (Value)) (x33_ : Int × Int × Int × Int × Unit) : M (Value) :=
 aEql PP 66 false false (.agg ⟨[(.int .i64 x33_.1), (.int .i64 x33_.2.1), (.int .i64 x33_.2.2.1), (.int .i64 x33_.2.2.2.1)]⟩) (.agg ⟨[(.int .i64 0), (.int .i64 0), (.int .i64 0), (.int .i64 0)]⟩) fun (q34_ : Bool) =>
 M.ite q34_
 (M.ite v6_
 (M.load (.cell (.int .i64)) 1 ((Addr.mk b0_ 0 none).add 0) fun (x35_ : Int) =>
 M.ite (eqB x35_ 11)
 (go8_ (true, ()))
 (M.load (.cell .slice) 1 ((Addr.mk b0_ 0 none).add 8) fun (x37_ : SL) =>
 go8_ ((eqB ((x37_.2.1 : Nat) : Int) 0), ())))
 (M.load (.cell .slice) 1 ((Addr.mk b0_ 0 none).add 8) fun (x40_ : SL) =>
 go8_ ((eqB ((x40_.2.1 : Nat) : Int) 0), ())))
 (go8_ (false, ()))
def f28c2 (X : XT) (L : LoopI) (b0_ : Nat) (v6_ : Bool) (go8_ : ((Bool) × Unit) → M (Value)) (v24_ : Bool) : M (Value) :=
 M.ite v24_
 (M.ite v6_
 (M.load (.cell (.int .i64)) 1 ((Addr.mk b0_ 0 none).add 0) fun (x25_ : Int) =>
 M.ite (eqB x25_ 11)
 (go8_ (true, ()))
 (M.load (.cell .slice) 1 ((Addr.mk b0_ 0 none).add 8) fun (x27_ : SL) =>
 go8_ ((eqB ((x27_.2.1 : Nat) : Int) 0), ())))
 (M.load (.cell .slice) 1 ((Addr.mk b0_ 0 none).add 8) fun (x30_ : SL) =>
 go8_ ((eqB ((x30_.2.1 : Nat) : Int) 0), ())))
 (M.load (.agg [(.int .i64), (.int .i64), (.int .i64), (.int .i64)]) 4 ((Addr.mk b0_ 0 none).add 4) fun (x33_ : Int × Int × Int × Int × Unit) =>
 f28c1 X L b0_ v6_ go8_ x33_)
def f28c3 (X : XT) (L : LoopI) (b0_ : Nat) (v6_ : Bool) (go8_ : ((Bool) × Unit) → M (Value)) (x43_ : Int × Int × Int × Int × Unit) : M (Value) :=
 aEql PP 66 false false (.agg ⟨[(.int .i64 x43_.1), (.int .i64 x43_.2.1), (.int .i64 x43_.2.2.1), (.int .i64 x43_.2.2.2.1)]⟩) (.agg ⟨[(.int .i64 0), (.int .i64 0), (.int .i64 0), (.int .i64 0)]⟩) fun (q44_ : Bool) =>
 M.ite q44_
 (M.ite v6_
 (M.load (.cell (.int .i64)) 1 ((Addr.mk b0_ 0 none).add 0) fun (x45_ : Int) =>
 M.ite (eqB x45_ 11)
 (go8_ (true, ()))
 (M.load (.cell .slice) 1 ((Addr.mk b0_ 0 none).add 8) fun (x47_ : SL) =>
 go8_ ((eqB ((x47_.2.1 : Nat) : Int) 0), ())))
 (M.load (.cell .slice) 1 ((Addr.mk b0_ 0 none).add 8) fun (x50_ : SL) =>
 go8_ ((eqB ((x50_.2.1 : Nat) : Int) 0), ())))
 (go8_ (false, ()))
def f28c4 (X : XT) (L : LoopI) (b0_ : Nat) (v6_ : Bool) (go8_ : ((Bool) × Unit) → M (Value)) (x66_ : Int × Int × Int × Int × Unit) : M (Value) :=
 aEql PP 66 false false (.agg ⟨[(.int .i64 x66_.1), (.int .i64 x66_.2.1), (.int .i64 x66_.2.2.1), (.int .i64 x66_.2.2.2.1)]⟩) (.agg ⟨[(.int .i64 0), (.int .i64 0), (.int .i64 0), (.int .i64 0)]⟩) fun (q67_ : Bool) =>
 M.ite q67_
 (M.ite v6_
 (M.load (.cell (.int .i64)) 1 ((Addr.mk b0_ 0 none).add 0) fun (x68_ : Int) =>
 M.ite (eqB x68_ 11)
 (go8_ (true, ()))
 (M.load (.cell .slice) 1 ((Addr.mk b0_ 0 none).add 8) fun (x70_ : SL) =>
 go8_ ((eqB ((x70_.2.1 : Nat) : Int) 0), ())))
 (M.load (.cell .slice) 1 ((Addr.mk b0_ 0 none).add 8) fun (x73_ : SL) =>
 go8_ ((eqB ((x73_.2.1 : Nat) : Int) 0), ())))
 (go8_ (false, ()))
def f28c5 (X : XT) (L : LoopI) (b0_ : Nat) (v6_ : Bool) (go8_ : ((Bool) × Unit) → M (Value)) (v57_ : Bool) : M (Value) :=
 M.ite v57_
 (M.ite v6_
 (M.load (.cell (.int .i64)) 1 ((Addr.mk b0_ 0 none).add 0) fun (x58_ : Int) =>
 M.ite (eqB x58_ 11)
 (go8_ (true, ()))
 (M.load (.cell .slice) 1 ((Addr.mk b0_ 0 none).add 8) fun (x60_ : SL) =>
 go8_ ((eqB ((x60_.2.1 : Nat) : Int) 0), ())))
 (M.load (.cell .slice) 1 ((Addr.mk b0_ 0 none).add 8) fun (x63_ : SL) =>
 go8_ ((eqB ((x63_.2.1 : Nat) : Int) 0), ())))
 (M.load (.agg [(.int .i64), (.int .i64), (.int .i64), (.int .i64)]) 4 ((Addr.mk b0_ 0 none).add 4) fun (x66_ : Int × Int × Int × Int × Unit) =>
 f28c4 X L b0_ v6_ go8_ x66_)
def f28c6 (X : XT) (L : LoopI) (b0_ : Nat) (v6_ : Bool) (go8_ : ((Bool) × Unit) → M (Value)) (x76_ : Int × Int × Int × Int × Unit) : M (Value) :=
 aEql PP 66 false false (.agg ⟨[(.int .i64 x76_.1), (.int .i64 x76_.2.1), (.int .i64 x76_.2.2.1), (.int .i64 x76_.2.2.2.1)]⟩) (.agg ⟨[(.int .i64 0), (.int .i64 0), (.int .i64 0), (.int .i64 0)]⟩) fun (q77_ : Bool) =>
 M.ite q77_
 (M.ite v6_
 (M.load (.cell (.int .i64)) 1 ((Addr.mk b0_ 0 none).add 0) fun (x78_ : Int) =>
 M.ite (eqB x78_ 11)
 (go8_ (true, ()))
 (M.load (.cell .slice) 1 ((Addr.mk b0_ 0 none).add 8) fun (x80_ : SL) =>
 go8_ ((eqB ((x80_.2.1 : Nat) : Int) 0), ())))
 (M.load (.cell .slice) 1 ((Addr.mk b0_ 0 none).add 8) fun (x83_ : SL) =>
 go8_ ((eqB ((x83_.2.1 : Nat) : Int) 0), ())))
 (go8_ (false, ()))
def f28c7 (X : XT) (L : LoopI) (b0_ : Nat) (v6_ : Bool) (go8_ : ((Bool) × Unit) → M (Value)) (v22_ : Bool) : M (Value) :=
 M.ite v22_
 (M.ite v6_
 (M.load (.cell (.int .i64)) 1 ((Addr.mk b0_ 0 none).add 0) fun (x23_ : Int) =>
 f28c2 X L b0_ v6_ go8_ (eqB x23_ 10))
 (M.load (.agg [(.int .i64), (.int .i64), (.int .i64), (.int .i64)]) 4 ((Addr.mk b0_ 0 none).add 4) fun (x43_ : Int × Int × Int × Int × Unit) =>
 f28c3 X L b0_ v6_ go8_ x43_))
 (M.load (.cell .slice) 1 ((Addr.mk b0_ 0 none).add 3) fun (x53_ : SL) =>
 M.ite (eqB ((x53_.2.1 : Nat) : Int) 0)
 (M.ite v6_
 (M.load (.cell (.int .i64)) 1 ((Addr.mk b0_ 0 none).add 0) fun (x56_ : Int) =>
 f28c5 X L b0_ v6_ go8_ (eqB x56_ 10))
 (M.load (.agg [(.int .i64), (.int .i64), (.int .i64), (.int .i64)]) 4 ((Addr.mk b0_ 0 none).add 4) fun (x76_ : Int × Int × Int × Int × Unit) =>
 f28c6 X L b0_ v6_ go8_ x76_))
 (go8_ (false, ())))
def f28c8 (X : XT) (L : LoopI) (b0_ : Nat) (v6_ : Bool) (go8_ : ((Bool) × Unit) → M (Value)) (x99_ : Int × Int × Int × Int × Unit) : M (Value) :=
 aEql PP 66 false false (.agg ⟨[(.int .i64 x99_.1), (.int .i64 x99_.2.1), (.int .i64 x99_.2.2.1), (.int .i64 x99_.2.2.2.1)]⟩) (.agg ⟨[(.int .i64 0), (.int .i64 0), (.int .i64 0), (.int .i64 0)]⟩) fun (q100_ : Bool) =>
 M.ite q100_
 (M.ite v6_
 (M.load (.cell (.int .i64)) 1 ((Addr.mk b0_ 0 none).add 0) fun (x101_ : Int) =>
 M.ite (eqB x101_ 11)
 (go8_ (true, ()))
 (M.load (.cell .slice) 1 ((Addr.mk b0_ 0 none).add 8) fun (x103_ : SL) =>
 go8_ ((eqB ((x103_.2.1 : Nat) : Int) 0), ())))
 (M.load (.cell .slice) 1 ((Addr.mk b0_ 0 none).add 8) fun (x106_ : SL) =>
 go8_ ((eqB ((x106_.2.1 : Nat) : Int) 0), ())))
 (go8_ (false, ()))
def f28c9 (X : XT) (L : LoopI) (b0_ : Nat) (v6_ : Bool) (go8_ : ((Bool) × Unit) → M (Value)) (v90_ : Bool) : M (Value) :=
 M.ite v90_
 (M.ite v6_
 (M.load (.cell (.int .i64)) 1 ((Addr.mk b0_ 0 none).add 0) fun (x91_ : Int) =>
 M.ite (eqB x91_ 11)
 (go8_ (true, ()))
 (M.load (.cell .slice) 1 ((Addr.mk b0_ 0 none).add 8) fun (x93_ : SL) =>
 go8_ ((eqB ((x93_.2.1 : Nat) : Int) 0), ())))
 (M.load (.cell .slice) 1 ((Addr.mk b0_ 0 none).add 8) fun (x96_ : SL) =>
 go8_ ((eqB ((x96_.2.1 : Nat) : Int) 0), ())))
 (M.load (.agg [(.int .i64), (.int .i64), (.int .i64), (.int .i64)]) 4 ((Addr.mk b0_ 0 none).add 4) fun (x99_ : Int × Int × Int × Int × Unit) =>
 f28c8 X L b0_ v6_ go8_ x99_)
def f28c10 (X : XT) (L : LoopI) (b0_ : Nat) (v6_ : Bool) (go8_ : ((Bool) × Unit) → M (Value)) (x109_ : Int × Int × Int × Int × Unit) : M (Value) :=
 aEql PP 66 false false (.agg ⟨[(.int .i64 x109_.1), (.int .i64 x109_.2.1), (.int .i64 x109_.2.2.1), (.int .i64 x109_.2.2.2.1)]⟩) (.agg ⟨[(.int .i64 0), (.int .i64 0), (.int .i64 0), (.int .i64 0)]⟩) fun (q110_ : Bool) =>
 M.ite q110_
 (M.ite v6_
 (M.load (.cell (.int .i64)) 1 ((Addr.mk b0_ 0 none).add 0) fun (x111_ : Int) =>
 M.ite (eqB x111_ 11)
 (go8_ (true, ()))
 (M.load (.cell .slice) 1 ((Addr.mk b0_ 0 none).add 8) fun (x113_ : SL) =>
 go8_ ((eqB ((x113_.2.1 : Nat) : Int) 0), ())))
 (M.load (.cell .slice) 1 ((Addr.mk b0_ 0 none).add 8) fun (x116_ : SL) =>
 go8_ ((eqB ((x116_.2.1 : Nat) : Int) 0), ())))
 (go8_ (false, ()))
def f28c11 (X : XT) (L : LoopI) (b0_ : Nat) (v6_ : Bool) (go8_ : ((Bool) × Unit) → M (Value)) : M (Value) :=
 M.ite v6_
 (M.load (.cell (.int .i64)) 1 ((Addr.mk b0_ 0 none).add 0) fun (x21_ : Int) =>
 f28c7 X L b0_ v6_ go8_ (eqB x21_ 7))
 (M.load (.cell .slice) 1 ((Addr.mk b0_ 0 none).add 3) fun (x86_ : SL) =>
 M.ite (eqB ((x86_.2.1 : Nat) : Int) 0)
 (M.ite v6_
 (M.load (.cell (.int .i64)) 1 ((Addr.mk b0_ 0 none).add 0) fun (x89_ : Int) =>
 f28c9 X L b0_ v6_ go8_ (eqB x89_ 10))
 (M.load (.agg [(.int .i64), (.int .i64), (.int .i64), (.int .i64)]) 4 ((Addr.mk b0_ 0 none).add 4) fun (x109_ : Int × Int × Int × Int × Unit) =>
 f28c10 X L b0_ v6_ go8_ x109_))
 (go8_ (false, ())))
def f28c12 (X : XT) (L : LoopI) (b0_ : Nat) (j3_ : (ByteArray) × Unit) (x5_ : Int) : M (Value) :=
 let v6_ : Bool := eqB x5_ 0
 M.join (fun (j7_ : (Bool) × Unit) =>
 M.join (fun (j9_ : (ByteArray) × (Bool) × Unit) =>
 M.pure (.tuple ⟨[(.string j9_.1), (.bool j9_.2.1)]⟩)) fun go10_ =>
 M.ite j7_.1
 (f28c0 X L b0_ j3_ v6_ go10_)
 (go10_ (j3_.1, false, ()))) fun go8_ =>
 M.load (.cell (.int .i64)) 1 ((Addr.mk b0_ 0 none).add 0) fun (x18_ : Int) =>
 M.callS (.one (.cell .string)) (X (.call 38 [(.int .i64 x18_)])) fun (r19_ : ByteArray) =>
 M.ite (!(seq r19_ st0))
 (f28c11 X L b0_ v6_ go8_)
 (go8_ (false, ()))
def f28c13 (X : XT) (L : LoopI) (x136_ : Int) (x137_ : Int) (x138_ : Int) (x139_ : Int) (s140_ : (ByteArray) × (Int) × Unit) : M (((ByteArray) × (Int) × Unit) ⊕ (((ByteArray) × Unit) ⊕ (Unit))) :=
 M.guard (inB s140_.2.1 4)
 (M.need ((([(.int .i64 x136_), (.int .i64 x137_), (.int .i64 x138_), (.int .i64 x139_)])[((Int.toNat s140_.2.1) * 1)]?).bind ((.cell (.int .i64)) : Sh).prj) fun (x143_ : Int) =>
 M.callS (.one (.cell .string)) (X (.call 40 [(.int .i64 x143_)])) fun (r144_ : ByteArray) =>
 M.guard (Nat.ble (st14.size + r144_.size) 9223372036854775807)
 (let v145_ : ByteArray := st14 ++ r144_
 M.guard (Nat.ble (s140_.1.size + v145_.size) 9223372036854775807)
 (M.pure (.inl ((s140_.1 ++ v145_), (addW .i64 s140_.2.1 1), ())))))
def f28c14 (X : XT) (L : LoopI) (b0_ : Nat) (v125_ : ByteArray) (go128_ : ((ByteArray) × Unit) → M (Value)) (x136_ : Int) : M (Value) :=
 M.load (.cell (.int .i64)) 1 (((Addr.mk b0_ 0 none).add 4).add 1) fun (x137_ : Int) =>
 M.load (.cell (.int .i64)) 1 (((Addr.mk b0_ 0 none).add 4).add 2) fun (x138_ : Int) =>
 M.load (.cell (.int .i64)) 1 (((Addr.mk b0_ 0 none).add 4).add 3) fun (x139_ : Int) =>
 M.bind (L (σ := (ByteArray) × (Int) × Unit) (ρ := ((ByteArray) × Unit) ⊕ (Unit)) (fun s140_ =>
 M.ite (ltB s140_.2.1 4)
 (f28c13 X L x136_ x137_ x138_ x139_ s140_)
 (M.pure (.inr (.inl (s140_.1, ()))))) (v125_, 0, ())) <| M.sum (fun (j148_ : (ByteArray) × Unit) =>
 go128_ (j148_.1, ())) (fun _ => M.stuck)
def f28c15 (X : XT) (L : LoopI) (s152_ : (ByteArray) × (Int) × Unit) (b156_ : Nat) (x158_ : ByteArray) (r159_ : ByteArray) : M (((ByteArray) × (Int) × Unit) ⊕ (((ByteArray) × Unit) ⊕ (Unit))) :=
 M.load (.cell .string) 1 ((Addr.mk b156_ 0 none).add 1) fun (x160_ : ByteArray) => cond (veqv (.string x160_) (.string x158_)) (M.guard (Nat.ble (st14.size + r159_.size) 9223372036854775807)
 (let v161_ : ByteArray := st14 ++ r159_
 M.guard (Nat.ble (v161_.size + st14.size) 9223372036854775807)
 (let v162_ : ByteArray := v161_ ++ st14
 M.callS (.one (.cell .string)) (X (.call 26 [(.string x158_)])) fun (r163_ : ByteArray) =>
 M.guard (Nat.ble (v162_.size + r163_.size) 9223372036854775807)
 (let v164_ : ByteArray := v162_ ++ r163_
 M.guard (Nat.ble (s152_.1.size + v164_.size) 9223372036854775807)
 (M.pure (.inl ((s152_.1 ++ v164_), (addW .i64 s152_.2.1 1), ()))))))) M.stuck
def f28c16 (X : XT) (L : LoopI) (s152_ : (ByteArray) × (Int) × Unit) (a154_ : Addr) : M (((ByteArray) × (Int) × Unit) ⊕ (((ByteArray) × Unit) ⊕ (Unit))) :=
 M.load (.agg [(.int .i64), .string]) 2 (a154_.add ((Int.toNat s152_.2.1) * 2)) fun (x155_ : Int × ByteArray × Unit) =>
 M.new (.cells (Row.ofList [(.int .i64 0), (.string st0)]) 71 false (0, 0) false) fun b156_ =>
 M.store (Addr.mk b156_ 0 none) [(.int .i64 x155_.1), (.string x155_.2.1)]
 (M.load (.cell (.int .i64)) 1 ((Addr.mk b156_ 0 none).add 0) fun (x157_ : Int) =>
 M.load (.cell .string) 1 ((Addr.mk b156_ 0 none).add 1) fun (x158_ : ByteArray) =>
 M.callS (.one (.cell .string)) (X (.call 40 [(.int .i64 x157_)])) fun (r159_ : ByteArray) =>
 f28c15 X L s152_ b156_ x158_ r159_)
def f28c17 (X : XT) (L : LoopI) (b0_ : Nat) (v125_ : ByteArray) (x126_ : Int) (go128_ : ((ByteArray) × Unit) → M (Value)) (v149_ : Bool) : M (Value) :=
 M.ite v149_
 (M.load (.cell .slice) 1 ((Addr.mk b0_ 0 none).add 8) fun (x150_ : SL) =>
 M.bind (L (σ := (ByteArray) × (Int) × Unit) (ρ := ((ByteArray) × Unit) ⊕ (Unit)) (fun s152_ =>
 M.ite (ltB s152_.2.1 ((x150_.2.1 : Nat) : Int))
 (M.guard (inB s152_.2.1 x150_.2.1)
 (M.deref x150_.1 fun a154_ =>
 f28c16 X L s152_ a154_))
 (M.pure (.inr (.inl (s152_.1, ()))))) (v125_, 0, ())) <| M.sum (fun (j167_ : (ByteArray) × Unit) =>
 go128_ (j167_.1, ())) (fun _ => M.stuck))
 (M.join (fun (j168_ : (Bool) × Unit) =>
 M.ite j168_.1
 (M.load (.cell .bool) 1 ((Addr.mk b0_ 0 none).add 2) fun (x170_ : Bool) =>
 M.ite x170_
 (M.guard (Nat.ble (v125_.size + st19.size) 9223372036854775807)
 (go128_ ((v125_ ++ st19), ())))
 (M.guard (Nat.ble (v125_.size + st20.size) 9223372036854775807)
 (go128_ ((v125_ ++ st20), ()))))
 (go128_ (v125_, ()))) fun go169_ =>
 M.ite (eqB x126_ 15)
 (go169_ (true, ()))
 (go169_ ((eqB x126_ 16), ())))
def f28c18 (X : XT) (L : LoopI) (b0_ : Nat) (v125_ : ByteArray) (x126_ : Int) (go128_ : ((ByteArray) × Unit) → M (Value)) (v129_ : Bool) : M (Value) :=
 M.ite v129_
 (M.load (.cell .slice) 1 ((Addr.mk b0_ 0 none).add 3) fun (x130_ : SL) =>
 M.toStr x130_.1 x130_.2.1 fun s131_ =>
 M.callS (.one (.cell .string)) (X (.call 26 [(.string s131_)])) fun (r132_ : ByteArray) =>
 M.guard (Nat.ble (st14.size + r132_.size) 9223372036854775807)
 (let v133_ : ByteArray := st14 ++ r132_
 M.guard (Nat.ble (v125_.size + v133_.size) 9223372036854775807)
 (go128_ ((v125_ ++ v133_), ()))))
 (M.ite (eqB x126_ 10)
 (M.load (.cell (.int .i64)) 1 (((Addr.mk b0_ 0 none).add 4).add 0) fun (x136_ : Int) =>
 f28c14 X L b0_ v125_ go128_ x136_)
 (f28c17 X L b0_ v125_ x126_ go128_ (eqB x126_ 11)))
def f28c19 (X : XT) (L : LoopI) (b0_ : Nat) (r2_ : ByteArray) (go4_ : ((ByteArray) × Unit) → M (Value)) (v120_ : Bool) : M (Value) :=
 M.ite v120_
 (M.load (.cell (.int .i64)) 1 ((Addr.mk b0_ 0 none).add 1) fun (x121_ : Int) =>
 M.callS (.one (.cell .string)) (X (.call 40 [(.int .i64 x121_)])) fun (r122_ : ByteArray) =>
 M.guard (Nat.ble (st17.size + r122_.size) 9223372036854775807)
 (let v123_ : ByteArray := st17 ++ r122_
 M.guard (Nat.ble (r2_.size + v123_.size) 9223372036854775807)
 (go4_ ((r2_ ++ v123_), ()))))
 (M.guard (Nat.ble (r2_.size + st18.size) 9223372036854775807)
 (M.load (.cell (.int .i64)) 1 ((Addr.mk b0_ 0 none).add 0) fun (x126_ : Int) =>
 M.join (fun (j127_ : (ByteArray) × Unit) =>
 go4_ (j127_.1, ())) fun go128_ =>
 f28c18 X L b0_ (r2_ ++ st18) x126_ go128_ (eqB x126_ 7)))
def f28c20 (X : XT) (L : LoopI) (x : (Int × Int × Bool × SL × Int × Int × Int × Int × SL × Unit) × Unit) : M (Value) :=
 M.new (.cells (Row.ofList [(.int .i64 x.1.1), (.int .i64 x.1.2.1), (.bool x.1.2.2.1), (.slice x.1.2.2.2.1.1 x.1.2.2.2.1.2.1 x.1.2.2.2.1.2.2), (.int .i64 x.1.2.2.2.2.1), (.int .i64 x.1.2.2.2.2.2.1), (.int .i64 x.1.2.2.2.2.2.2.1), (.int .i64 x.1.2.2.2.2.2.2.2.1), (.slice x.1.2.2.2.2.2.2.2.2.1.1 x.1.2.2.2.2.2.2.2.2.1.2.1 x.1.2.2.2.2.2.2.2.2.1.2.2)]) 69 false (0, 0) false) fun b0_ =>
 M.load (.cell (.int .i64)) 1 ((Addr.mk b0_ 0 none).add 0) fun (x1_ : Int) =>
 M.callS (.one (.cell .string)) (X (.call 38 [(.int .i64 x1_)])) fun (r2_ : ByteArray) =>
 M.join (fun (j3_ : (ByteArray) × Unit) =>
 M.load (.cell (.int .i64)) 1 ((Addr.mk b0_ 0 none).add 1) fun (x5_ : Int) =>
 f28c12 X L b0_ j3_ x5_) fun go4_ =>
 M.load (.cell (.int .i64)) 1 ((Addr.mk b0_ 0 none).add 1) fun (x119_ : Int) =>
 f28c19 X L b0_ r2_ go4_ (!(eqB x119_ 0))
def f28 (X : XT) (L : LoopI) (x : (Int × Int × Bool × SL × Int × Int × Int × Int × SL × Unit) × Unit) : M Value :=
 f28c20 X L x

theorem e28 (X : XT) (L : LoopI) (x : (Int × Int × Bool × SL × Int × Int × Int × Int × SL × Unit) × Unit) : evBody CC { call := X, loop := L } 28 (shsInj [(.agg [(.int .i64), (.int .i64), .bool, .slice, (.int .i64), (.int .i64), (.int .i64), (.int .i64), .slice])] x) = f28 X L x := by kernel_rfl

/-- (*strings.Builder).WriteString -/
def f34 (X : XT) (L : LoopI) (x : (PA) × (ByteArray) × Unit) : M Value :=
 M.callS (.tuple []) (X (.call 68 [(.pointer x.1)])) fun (r0_ : Unit) =>
 M.deref x.1 fun a1_ =>
 M.load (.cell .slice) 1 (a1_.add 1) fun (x2_ : SL) =>
 M.append 5 1 1 x2_.1 x2_.2.1 x2_.2.2 (.string x.2.1) fun a3_ n4_ c5_ =>
 M.deref x.1 fun a6_ =>
 M.store (a6_.add 1) [(.slice a3_ n4_ c5_)]
 (M.pure (.tuple ⟨[(.int .i64 ((x.2.1.size : Nat) : Int)), .nilIface]⟩))

theorem e34 (X : XT) (L : LoopI) (x : (PA) × (ByteArray) × Unit) : evBody CC { call := X, loop := L } 34 (shsInj [(.cell .ptr), (.cell .string)] x) = f34 X L x := by kernel_rfl

/-- (*strings.Builder).Len -/
def f35 (X : XT) (L : LoopI) (x : (PA) × Unit) : M Value :=
 M.deref x.1 fun a0_ =>
 M.load (.cell .slice) 1 (a0_.add 1) fun (x1_ : SL) =>
 M.pure (.int .i64 ((x1_.2.1 : Nat) : Int))

theorem e35 (X : XT) (L : LoopI) (x : (PA) × Unit) : evBody CC { call := X, loop := L } 35 (shsInj [(.cell .ptr)] x) = f35 X L x := by kernel_rfl

/-- (*strings.Builder).String -/
def f36 (X : XT) (L : LoopI) (x : (PA) × Unit) : M Value :=
 M.deref x.1 fun a0_ =>
 M.load (.cell .slice) 1 (a0_.add 1) fun (x1_ : SL) =>
 M.deref x.1 fun a2_ =>
 M.load (.cell .slice) 1 (a2_.add 1) fun (x3_ : SL) =>
 aBuiltin PP .unsafeSliceData #[49] [(.slice x1_.1 x1_.2.1 x1_.2.2)] fun (w5_ : Value) =>
 M.load (.cell .slice) 1 (a2_.add 1) fun (x6_ : SL) => cond (veqv (.slice x6_.1 x6_.2.1 x6_.2.2) (.slice x3_.1 x3_.2.1 x3_.2.2)) (aBuiltin PP .unsafeString #[119, 3] [w5_, (.int .i64 ((x3_.2.1 : Nat) : Int))] fun (w7_ : Value) =>
 M.pure w7_) M.stuck

theorem e36 (X : XT) (L : LoopI) (x : (PA) × Unit) : evBody CC { call := X, loop := L } 36 (shsInj [(.cell .ptr)] x) = f36 X L x := by kernel_rfl

/-- hayrick/shell.shapeOf -/
def f37c0 (X : XT) (L : LoopI) (b0_ : Nat) (v16_ : Bool) : M (Value) :=
 M.ite v16_
 (M.store (Addr.mk b0_ 0 none) [(.bool false), (.bool false), (.bool false), (.bool false), (.bool true)]
 (M.load (.agg [.bool, .bool, .bool, .bool, .bool]) 5 (Addr.mk b0_ 0 none) fun (x17_ : Bool × Bool × Bool × Bool × Bool × Unit) =>
 M.pure (.agg ⟨[(.bool x17_.1), (.bool x17_.2.1), (.bool x17_.2.2.1), (.bool x17_.2.2.2.1), (.bool x17_.2.2.2.2.1)]⟩)))
 (M.store (Addr.mk b0_ 0 none) [(.bool false), (.bool false), (.bool false), (.bool false), (.bool false)]
 (M.load (.agg [.bool, .bool, .bool, .bool, .bool]) 5 (Addr.mk b0_ 0 none) fun (x18_ : Bool × Bool × Bool × Bool × Bool × Unit) =>
 M.pure (.agg ⟨[(.bool x18_.1), (.bool x18_.2.1), (.bool x18_.2.2.1), (.bool x18_.2.2.2.1), (.bool x18_.2.2.2.2.1)]⟩)))
def f37c1 (X : XT) (L : LoopI) (x : (Int) × Unit) (b0_ : Nat) : M (Value) :=
 M.join (fun (j13_ : (Bool) × Unit) =>
 M.ite j13_.1
 (M.store (Addr.mk b0_ 0 none) [(.bool false), (.bool false), (.bool true), (.bool false), (.bool false)]
 (M.load (.agg [.bool, .bool, .bool, .bool, .bool]) 5 (Addr.mk b0_ 0 none) fun (x15_ : Bool × Bool × Bool × Bool × Bool × Unit) =>
 M.pure (.agg ⟨[(.bool x15_.1), (.bool x15_.2.1), (.bool x15_.2.2.1), (.bool x15_.2.2.2.1), (.bool x15_.2.2.2.2.1)]⟩)))
 (f37c0 X L b0_ (eqB x.1 20))) fun go14_ =>
 M.ite (eqB x.1 15)
 (go14_ (true, ()))
 (M.ite (eqB x.1 17)
 (go14_ (true, ()))
 (M.ite (eqB x.1 18)
 (go14_ (true, ()))
 (go14_ ((eqB x.1 19), ()))))
def f37c2 (X : XT) (L : LoopI) (x : (Int) × Unit) (b0_ : Nat) (v9_ : Bool) : M (Value) :=
 M.ite v9_
 (M.store (Addr.mk b0_ 0 none) [(.bool true), (.bool false), (.bool true), (.bool false), (.bool true)]
 (M.load (.agg [.bool, .bool, .bool, .bool, .bool]) 5 (Addr.mk b0_ 0 none) fun (x10_ : Bool × Bool × Bool × Bool × Bool × Unit) =>
 M.pure (.agg ⟨[(.bool x10_.1), (.bool x10_.2.1), (.bool x10_.2.2.1), (.bool x10_.2.2.2.1), (.bool x10_.2.2.2.2.1)]⟩)))
 (M.ite (eqB x.1 9)
 (M.store (Addr.mk b0_ 0 none) [(.bool true), (.bool false), (.bool true), (.bool false), (.bool false)]
 (M.load (.agg [.bool, .bool, .bool, .bool, .bool]) 5 (Addr.mk b0_ 0 none) fun (x12_ : Bool × Bool × Bool × Bool × Bool × Unit) =>
 M.pure (.agg ⟨[(.bool x12_.1), (.bool x12_.2.1), (.bool x12_.2.2.1), (.bool x12_.2.2.2.1), (.bool x12_.2.2.2.2.1)]⟩)))
 (f37c1 X L x b0_))
def f37c3 (X : XT) (L : LoopI) (x : (Int) × Unit) (b0_ : Nat) (j4_ : (Bool) × Unit) : M (Value) :=
 M.ite j4_.1
 (M.store (Addr.mk b0_ 0 none) [(.bool true), (.bool true), (.bool false), (.bool false), (.bool false)]
 (M.load (.agg [.bool, .bool, .bool, .bool, .bool]) 5 (Addr.mk b0_ 0 none) fun (x6_ : Bool × Bool × Bool × Bool × Bool × Unit) =>
 M.pure (.agg ⟨[(.bool x6_.1), (.bool x6_.2.1), (.bool x6_.2.2.1), (.bool x6_.2.2.2.1), (.bool x6_.2.2.2.2.1)]⟩)))
 (M.ite (eqB x.1 7)
 (M.store (Addr.mk b0_ 0 none) [(.bool true), (.bool false), (.bool true), (.bool true), (.bool false)]
 (M.load (.agg [.bool, .bool, .bool, .bool, .bool]) 5 (Addr.mk b0_ 0 none) fun (x8_ : Bool × Bool × Bool × Bool × Bool × Unit) =>
 M.pure (.agg ⟨[(.bool x8_.1), (.bool x8_.2.1), (.bool x8_.2.2.1), (.bool x8_.2.2.2.1), (.bool x8_.2.2.2.2.1)]⟩)))
 (f37c2 X L x b0_ (eqB x.1 8)))
def f37c4 (X : XT) (L : LoopI) (x : (Int) × Unit) (b0_ : Nat) : M (Value) :=
 M.join (fun (j1_ : (Bool) × Unit) =>
 M.ite j1_.1
 (M.store (Addr.mk b0_ 0 none) [(.bool true), (.bool false), (.bool false), (.bool false), (.bool false)]
 (M.load (.agg [.bool, .bool, .bool, .bool, .bool]) 5 (Addr.mk b0_ 0 none) fun (x3_ : Bool × Bool × Bool × Bool × Bool × Unit) =>
 M.pure (.agg ⟨[(.bool x3_.1), (.bool x3_.2.1), (.bool x3_.2.2.1), (.bool x3_.2.2.2.1), (.bool x3_.2.2.2.2.1)]⟩)))
 (M.join (fun (j4_ : (Bool) × Unit) =>
 f37c3 X L x b0_ j4_) fun go5_ =>
 M.ite (eqB x.1 3)
 (go5_ (true, ()))
 (go5_ ((eqB x.1 6), ())))) fun go2_ =>
 M.ite (eqB x.1 1)
 (go2_ (true, ()))
 (M.ite (eqB x.1 2)
 (go2_ (true, ()))
 (M.ite (eqB x.1 4)
 (go2_ (true, ()))
 (M.ite (eqB x.1 5)
 (go2_ (true, ()))
 (M.ite (eqB x.1 10)
 (go2_ (true, ()))
 (M.ite (eqB x.1 11)
 (go2_ (true, ()))
 (go2_ ((eqB x.1 12), ())))))))
def f37 (X : XT) (L : LoopI) (x : (Int) × Unit) : M Value :=
 M.new (.cells (Row.ofList [(.bool false), (.bool false), (.bool false), (.bool false), (.bool false)]) 93 false (0, 0) false) fun b0_ =>
 f37c4 X L x b0_

theorem e37 (X : XT) (L : LoopI) (x : (Int) × Unit) : evBody CC { call := X, loop := L } 37 (shsInj [(.cell (.int .i64))] x) = f37 X L x := by kernel_rfl

/-- hayrick/shell.name -/
def f38 (X : XT) (L : LoopI) (x : (Int) × Unit) : M Value :=
 M.callS (.one (.cell .slice)) (X (.call 69 [(.string st25), (.string st14)])) fun (r0_ : SL) =>
 M.join (fun (j1_ : (Bool) × Unit) =>
 M.ite j1_.1
 (M.pure (.string st0))
 (M.guard (inB x.1 r0_.2.1)
 (M.deref r0_.1 fun a3_ =>
 M.load (.cell .string) 1 (a3_.add ((Int.toNat x.1) * 1)) fun (x4_ : ByteArray) =>
 M.pure (.string x4_)))) fun go2_ =>
 M.ite (ltB x.1 1)
 (go2_ (true, ()))
 (go2_ ((leB ((r0_.2.1 : Nat) : Int) x.1), ()))

theorem e38 (X : XT) (L : LoopI) (x : (Int) × Unit) : evBody CC { call := X, loop := L } 38 (shsInj [(.cell (.int .i64))] x) = f38 X L x := by kernel_rfl

/-- hayrick/shell.line$1 -/
def f39 (X : XT) (L : LoopI) (x : (Bool) × (ByteArray) × (PA) × Unit) : M Value :=
 M.ite x.1
 (M.deref x.2.2.1 fun a0_ =>
 M.load (.cell .string) 1 a0_ fun (x1_ : ByteArray) =>
 M.guard (Nat.ble (st14.size + x.2.1.size) 9223372036854775807)
 (let v2_ : ByteArray := st14 ++ x.2.1
 M.guard (Nat.ble (x1_.size + v2_.size) 9223372036854775807)
 (M.deref x.2.2.1 fun a4_ =>
 M.store a4_ [(.string (x1_ ++ v2_))]
 (M.pure (.tuple ⟨[]⟩)))))
 (M.pure (.tuple ⟨[]⟩))

theorem e39 (X : XT) (L : LoopI) (x : (Bool) × (ByteArray) × (PA) × Unit) : evBody CC { call := X, loop := L } 39 (shsInj [(.cell .bool), (.cell .string), (.cell .ptr)] x) = f39 X L x := by kernel_rfl

/-- strconv.Itoa -/
def f40 (X : XT) (L : LoopI) (x : (Int) × Unit) : M Value :=
 M.callS (.one (.cell .string)) (X (.call 70 [(.int .i64 x.1)])) fun (r0_ : ByteArray) =>
 M.pure (.string r0_)

theorem e40 (X : XT) (L : LoopI) (x : (Int) × Unit) : evBody CC { call := X, loop := L } 40 (shsInj [(.cell (.int .i64))] x) = f40 X L x := by kernel_rfl

/-- hayrick/hayrickref30.has -/
def f41c0 (X : XT) (L : LoopI) (x : (Int) × Unit) : M (Value) :=
 M.join (fun (j7_ : (Bool) × Unit) =>
 M.ite j7_.1
 (M.pure (.tuple ⟨[(.bool false), (.bool false), (.bool true), (.bool false), (.bool false)]⟩))
 (M.ite (eqB x.1 20)
 (M.pure (.tuple ⟨[(.bool false), (.bool false), (.bool false), (.bool false), (.bool true)]⟩))
 (M.pure (.tuple ⟨[(.bool false), (.bool false), (.bool false), (.bool false), (.bool false)]⟩)))) fun go8_ =>
 M.ite (eqB x.1 15)
 (go8_ (true, ()))
 (M.ite (eqB x.1 17)
 (go8_ (true, ()))
 (M.ite (eqB x.1 18)
 (go8_ (true, ()))
 (go8_ ((eqB x.1 19), ()))))
def f41c1 (X : XT) (L : LoopI) (x : (Int) × Unit) : M (Value) :=
 M.join (fun (j2_ : (Bool) × Unit) =>
 M.ite j2_.1
 (M.pure (.tuple ⟨[(.bool true), (.bool true), (.bool false), (.bool false), (.bool false)]⟩))
 (M.ite (eqB x.1 7)
 (M.pure (.tuple ⟨[(.bool true), (.bool false), (.bool true), (.bool true), (.bool false)]⟩))
 (M.ite (eqB x.1 8)
 (M.pure (.tuple ⟨[(.bool true), (.bool false), (.bool true), (.bool false), (.bool true)]⟩))
 (M.ite (eqB x.1 9)
 (M.pure (.tuple ⟨[(.bool true), (.bool false), (.bool true), (.bool false), (.bool false)]⟩))
 (f41c0 X L x))))) fun go3_ =>
 M.ite (eqB x.1 3)
 (go3_ (true, ()))
 (go3_ ((eqB x.1 6), ()))
def f41 (X : XT) (L : LoopI) (x : (Int) × Unit) : M Value :=
 M.join (fun (j0_ : (Bool) × Unit) =>
 M.ite j0_.1
 (M.pure (.tuple ⟨[(.bool true), (.bool false), (.bool false), (.bool false), (.bool false)]⟩))
 (f41c1 X L x)) fun go1_ =>
 M.ite (eqB x.1 1)
 (go1_ (true, ()))
 (M.ite (eqB x.1 2)
 (go1_ (true, ()))
 (M.ite (eqB x.1 4)
 (go1_ (true, ()))
 (M.ite (eqB x.1 5)
 (go1_ (true, ()))
 (M.ite (eqB x.1 10)
 (go1_ (true, ()))
 (M.ite (eqB x.1 11)
 (go1_ (true, ()))
 (go1_ ((eqB x.1 12), ())))))))

theorem e41 (X : XT) (L : LoopI) (x : (Int) × Unit) : evBody CC { call := X, loop := L } 41 (shsInj [(.cell (.int .i64))] x) = f41 X L x := by kernel_rfl

/-- hayrick/hayrickref30.Name -/
def f42c0 (X : XT) (L : LoopI) (x : (Int) × Unit) (b0_ : Nat) : M (Value) :=
 M.store (Addr.mk b0_ 0 none) [(.string st0), (.string st26), (.string st27), (.string st28), (.string st29), (.string st30), (.string st31), (.string st32), (.string st33), (.string st34), (.string st35), (.string st36), (.string st37), (.string st38), (.string st39), (.string st40), (.string st41), (.string st42), (.string st43), (.string st44), (.string st45), (.string st46)]
 (M.join (fun (j1_ : (Bool) × Unit) =>
 M.ite j1_.1
 (M.pure (.string st0))
 (M.guard (inB x.1 22)
 (M.load (.cell .string) 1 ((Addr.mk b0_ 0 none).add ((Int.toNat x.1) * 1)) fun (x3_ : ByteArray) =>
 M.pure (.string x3_)))) fun go2_ =>
 M.ite (ltB x.1 1)
 (go2_ (true, ()))
 (go2_ ((ltB 21 x.1), ())))
def f42 (X : XT) (L : LoopI) (x : (Int) × Unit) : M Value :=
 M.new (.cells (Row.ofList (zc 121)) 121 false (0, 0) false) fun b0_ =>
 f42c0 X L x b0_

theorem e42 (X : XT) (L : LoopI) (x : (Int) × Unit) : evBody CC { call := X, loop := L } 42 (shsInj [(.cell (.int .i64))] x) = f42 X L x := by kernel_rfl

/-- hayrick/hayrickref30.Quote -/
def f43c0 (X : XT) (L : LoopI) (x : (ByteArray) × Unit) (s4_ : (SL) × (Int) × Unit) (go11_ : ((SL) × Unit) → M (((SL) × (Int) × Unit) ⊕ (((SL) × Unit) ⊕ (Unit)))) (v15_ : Int) : M (((SL) × (Int) × Unit) ⊕ (((SL) × Unit) ⊕ (Unit))) :=
 M.guard (!(decide (16 = 0)))
 (let v16_ : Int := IntKind.u8.wrap ((v15_ : Int).tdiv 16)
 M.guard (inB v16_ st15.size)
 (M.guard (inB s4_.2.1 x.1.size)
 (M.guard (!(decide (16 = 0)))
 (let v19_ : Int := ((byteAt x.1 s4_.2.1) : Int).tmod 16
 M.guard (inB v19_ st15.size)
 (M.new (.cells (Row.ofList [(.int .u8 92), (.int .u8 120), (.int .u8 (byteAt st15 v16_)), (.int .u8 (byteAt st15 v19_))]) 5 false (0, 0) false) fun b21_ =>
 M.append 5 1 1 s4_.1.1 s4_.1.2.1 s4_.1.2.2 (.slice (some (Addr.mk b21_ 0 none)) 4 4) fun a22_ n23_ c24_ =>
 go11_ ((a22_, n23_, c24_), ()))))))
def f43c1 (X : XT) (L : LoopI) (x : (ByteArray) × Unit) (s4_ : (SL) × (Int) × Unit) (r9_ : (Int) × (Int) × (Bool) × Unit) (go11_ : ((SL) × Unit) → M (((SL) × (Int) × Unit) ⊕ (((SL) × Unit) ⊕ (Unit)))) (j25_ : (Bool) × Unit) : M (((SL) × (Int) × Unit) ⊕ (((SL) × Unit) ⊕ (Unit))) :=
 M.ite j25_.1
 (M.guard (inB s4_.2.1 x.1.size)
 (M.new (.cells (Row.ofList [(.int .u8 92), (.int .u8 (byteAt x.1 s4_.2.1))]) 5 false (0, 0) false) fun b28_ =>
 M.append 5 1 1 s4_.1.1 s4_.1.2.1 s4_.1.2.2 (.slice (some (Addr.mk b28_ 0 none)) 2 2) fun a29_ n30_ c31_ =>
 go11_ ((a29_, n30_, c31_), ())))
 (let v32_ : Int := addW .i64 s4_.2.1 r9_.2.1
 M.guard (upB v32_ x.1.size)
 (let v33_ : Nat := (Int.toNat v32_)
 M.guard (upB s4_.2.1 v33_)
 (M.append 5 1 1 s4_.1.1 s4_.1.2.1 s4_.1.2.2 (.string (x.1.extract (Int.toNat s4_.2.1) v33_)) fun a36_ n37_ c38_ =>
 go11_ ((a36_, n37_, c38_), ()))))
def f43c2 (X : XT) (L : LoopI) (x : (ByteArray) × Unit) (s4_ : (SL) × (Int) × Unit) (r9_ : (Int) × (Int) × (Bool) × Unit) : M (((SL) × (Int) × Unit) ⊕ (((SL) × Unit) ⊕ (Unit))) :=
 M.join (fun (j10_ : (SL) × Unit) =>
 M.pure (.inl (j10_.1, (addW .i64 s4_.2.1 r9_.2.1), ()))) fun go11_ =>
 M.join (fun (j13_ : (Bool) × Unit) =>
 M.ite j13_.1
 (M.guard (inB s4_.2.1 x.1.size)
 (f43c0 X L x s4_ go11_ (byteAt x.1 s4_.2.1)))
 (M.join (fun (j25_ : (Bool) × Unit) =>
 f43c1 X L x s4_ r9_ go11_ j25_) fun go26_ =>
 M.ite (eqB r9_.1 34)
 (go26_ (true, ()))
 (go26_ ((eqB r9_.1 92), ())))) fun go14_ =>
 M.ite r9_.2.2.1
 (go14_ (true, ()))
 (M.ite (ltB r9_.1 32)
 (go14_ (true, ()))
 (go14_ ((eqB r9_.1 127), ())))
def f43c3 (X : XT) (L : LoopI) (x : (ByteArray) × Unit) (a1_ : PA) (n2_ : Nat) (c3_ : Nat) : M (Value) :=
 M.bind (L (σ := (SL) × (Int) × Unit) (ρ := ((SL) × Unit) ⊕ (Unit)) (fun s4_ =>
 M.ite (ltB s4_.2.1 ((x.1.size : Nat) : Int))
 (M.guard (upB s4_.2.1 x.1.size)
 (M.callS (.tuple [(.cell (.int .i32)), (.cell (.int .i64)), (.cell .bool)]) (X (.call 71 [(.string (x.1.extract (Int.toNat s4_.2.1) x.1.size))])) fun (r9_ : (Int) × (Int) × (Bool) × Unit) =>
 f43c2 X L x s4_ r9_))
 (M.pure (.inr (.inl (s4_.1, ()))))) ((a1_, n2_, c3_), 0, ())) <| M.sum (fun (j43_ : (SL) × Unit) =>
 M.new (.cells (Row.ofList [(.int .u8 34)]) 5 false (0, 0) false) fun b44_ =>
 M.append 5 1 1 j43_.1.1 j43_.1.2.1 j43_.1.2.2 (.slice (some (Addr.mk b44_ 0 none)) 1 1) fun a45_ n46_ c47_ =>
 M.toStr a45_ n46_ fun s48_ =>
 M.pure (.string s48_)) (fun _ => M.stuck)
def f43 (X : XT) (L : LoopI) (x : (ByteArray) × Unit) : M Value :=
 M.new (.cells (Row.ofList [(.int .u8 34)]) 5 false (0, 0) false) fun b0_ =>
 M.append 5 1 1 none 0 0 (.slice (some (Addr.mk b0_ 0 none)) 1 1) fun a1_ n2_ c3_ =>
 f43c3 X L x a1_ n2_ c3_

theorem e43 (X : XT) (L : LoopI) (x : (ByteArray) × Unit) : evBody CC { call := X, loop := L } 43 (shsInj [(.cell .string)] x) = f43 X L x := by kernel_rfl

end
end Go.Proofs.YtlcigkdflbfdgaaGreatDoor.sf
