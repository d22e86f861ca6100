/-
  What the functions come to, part 0: each text, and that the reading gives it.
-/
import Derived.Test.YtidadbppnmnfmaaGreatDoorPaH
import Derived.KernelRfl
set_option linter.unusedVariables false
namespace Go.Proofs.YtidadbppnmnfmaaGreatDoor.pa
open Go Go.Eng
noncomputable section
/-- hayrick/hayricklaw22.PathTexts -/
def f3c0 (X : XT) (L : LoopI) (x : (ByteArray) × (ByteArray) × (SL) × Unit) (a0_ : PA) (n1_ : Nat) (c2_ : Nat) (go8_ : ((Bool) × Unit) → M (Value)) (v12_ : Bool) : M (Value) :=
 M.ite v12_
 (M.callS (.one (.cell .bool)) (X (.call 11 [(.string x.1), (.string x.2.1)])) fun (r13_ : Bool) =>
 M.callS (.one (.cell .bool)) (X (.call 12 [(.string x.1), (.string x.2.1)])) fun (r14_ : Bool) =>
 M.ite (r13_ == r14_)
 (M.callS (.one (.cell .bool)) (X (.call 10 [(.slice a0_ n1_ c2_), (.slice x.2.2.1.1 x.2.2.1.2.1 x.2.2.1.2.2)])) fun (r16_ : Bool) =>
 M.ite r16_
 (M.callS (.one (.cell .bool)) (X (.call 13 [])) fun (r17_ : Bool) =>
 go8_ (r17_, ()))
 (go8_ (false, ())))
 (go8_ (false, ())))
 (go8_ (false, ()))
def f3c1 (X : XT) (L : LoopI) (x : (ByteArray) × (ByteArray) × (SL) × Unit) (a0_ : PA) (n1_ : Nat) (c2_ : Nat) (r3_ : (SL) × (Int) × Unit) (r4_ : (SL) × (Int) × Unit) (r5_ : (ByteArray) × (Int) × Unit) : M (Value) :=
 M.callS (.tuple [(.cell .string), (.cell (.int .i64))]) (X (.call 9 [(.slice x.2.2.1.1 x.2.2.1.2.1 x.2.2.1.2.2)])) fun (r6_ : (ByteArray) × (Int) × Unit) =>
 M.join (fun (j7_ : (Bool) × Unit) =>
 M.pure (.bool j7_.1)) fun go8_ =>
 M.callS (.one (.cell .bool)) (X (.call 10 [(.slice r3_.1.1 r3_.1.2.1 r3_.1.2.2), (.slice r4_.1.1 r4_.1.2.1 r4_.1.2.2)])) fun (r9_ : Bool) =>
 M.ite r9_
 (M.ite (eqB r3_.2.1 r4_.2.1)
 (M.ite (seq r5_.1 r6_.1)
 (f3c0 X L x a0_ n1_ c2_ go8_ (eqB r5_.2.1 r6_.2.1))
 (go8_ (false, ())))
 (go8_ (false, ())))
 (go8_ (false, ()))
def f3 (X : XT) (L : LoopI) (x : (ByteArray) × (ByteArray) × (SL) × Unit) : M Value :=
 M.append 9 1 16 none 0 0 (.slice x.2.2.1.1 x.2.2.1.2.1 x.2.2.1.2.2) fun a0_ n1_ c2_ =>
 M.callS (.tuple [(.cell .slice), (.cell (.int .i64))]) (X (.call 6 [(.string x.1)])) fun (r3_ : (SL) × (Int) × Unit) =>
 M.callS (.tuple [(.cell .slice), (.cell (.int .i64))]) (X (.call 7 [(.string x.1)])) fun (r4_ : (SL) × (Int) × Unit) =>
 M.callS (.tuple [(.cell .string), (.cell (.int .i64))]) (X (.call 8 [(.slice a0_ n1_ c2_)])) fun (r5_ : (ByteArray) × (Int) × Unit) =>
 f3c1 X L x a0_ n1_ c2_ r3_ r4_ r5_

theorem e3 (X : XT) (L : LoopI) (x : (ByteArray) × (ByteArray) × (SL) × Unit) : evBody CC { call := X, loop := L } 3 (shsInj [(.cell .string), (.cell .string), (.cell .slice)] x) = f3 X L x := by kernel_rfl

/-- hayrick/hayricklaw22.PathBack -/
def f4c0 (X : XT) (L : LoopI) (x : (ByteArray) × (SL) × Unit) (s4_ : (Int) × (Bool) × (Int) × Unit) : M (((Int) × (Bool) × (Int) × Unit) ⊕ (((Int) × (Bool) × Unit) ⊕ (Unit))) :=
 M.join (fun (j7_ : (Bool) × Unit) =>
 M.guard (inB s4_.2.2.1 x.2.1.2.1)
 (M.deref x.2.1.1 fun a10_ =>
 M.load (.cell .string) 1 (a10_.add ((Int.toNat s4_.2.2.1) * 1)) fun (x11_ : ByteArray) =>
 let v13_ : Int := addW .i64 (addW .i64 s4_.1 1) ((x11_.size : Nat) : Int)
 M.pure (.inl ((if 1048576 < v13_ then 1048576 else v13_), j7_.1, (addW .i64 s4_.2.2.1 1), ())))) fun go8_ =>
 M.ite s4_.2.1
 (M.guard (inB s4_.2.2.1 x.2.1.2.1)
 (M.deref x.2.1.1 fun a16_ =>
 M.load (.cell .string) 1 (a16_.add ((Int.toNat s4_.2.2.1) * 1)) fun (x17_ : ByteArray) =>
 M.callS (.one (.cell .bool)) (X (.call 14 [(.string x17_)])) fun (r18_ : Bool) =>
 go8_ (r18_, ())))
 (go8_ (false, ()))
def f4c1 (X : XT) (L : LoopI) (x : (ByteArray) × (SL) × Unit) (r3_ : (ByteArray) × (Int) × Unit) (j19_ : (Int) × (Bool) × Unit) : M (Value) :=
 M.callS (.tuple [(.cell .slice), (.cell (.int .i64))]) (X (.call 6 [(.string r3_.1)])) fun (r27_ : (SL) × (Int) × Unit) =>
 M.join (fun (j28_ : (Bool) × Unit) =>
 M.pure (.bool j28_.1)) fun go29_ =>
 M.ite (eqB r27_.2.1 0)
 (M.callS (.one (.cell .bool)) (X (.call 10 [(.slice r27_.1.1 r27_.1.2.1 r27_.1.2.2), (.slice x.2.1.1 x.2.1.2.1 x.2.1.2.2)])) fun (r31_ : Bool) =>
 M.ite r31_
 (M.ite (eqB ((r3_.1.size : Nat) : Int) (if 1 < j19_.1 then j19_.1 else 1))
 (M.callS (.one (.cell .bool)) (X (.call 13 [])) fun (r35_ : Bool) =>
 go29_ (r35_, ()))
 (go29_ (false, ())))
 (go29_ (false, ())))
 (go29_ (false, ()))
def f4c2 (X : XT) (L : LoopI) (x : (ByteArray) × (SL) × Unit) (r3_ : (ByteArray) × (Int) × Unit) (j19_ : (Int) × (Bool) × Unit) : M (Value) :=
 M.join (fun (j20_ : (Bool) × Unit) =>
 M.ite j20_.1
 (M.pure (.bool false))
 (M.ite (!(eqB r3_.2.1 0))
 (M.join (fun (j23_ : (Bool) × Unit) =>
 M.pure (.bool j23_.1)) fun go24_ =>
 M.ite (seq r3_.1 st0)
 (M.callS (.one (.cell .bool)) (X (.call 13 [])) fun (r26_ : Bool) =>
 go24_ (r26_, ()))
 (go24_ (false, ())))
 (f4c1 X L x r3_ j19_))) fun go21_ =>
 let v36_ : Bool := eqB r3_.2.1 0
 M.ite j19_.2.1
 (M.ite (!(v36_ == (leB j19_.1 256)))
 (go21_ (true, ()))
 (go21_ ((!((eqB r3_.2.1 31) == (!j19_.2.1))), ())))
 (M.ite (!(v36_ == false))
 (go21_ (true, ()))
 (go21_ ((!((eqB r3_.2.1 31) == (!j19_.2.1))), ())))
def f4c3 (X : XT) (L : LoopI) (x : (ByteArray) × (SL) × Unit) (r0_ : (SL) × (Int) × Unit) (go2_ : (Unit) → M (Value)) (v46_ : Bool) : M (Value) :=
 M.ite v46_
 (M.callS (.tuple [(.cell .string), (.cell (.int .i64))]) (X (.call 8 [(.slice r0_.1.1 r0_.1.2.1 r0_.1.2.2)])) fun (r47_ : (ByteArray) × (Int) × Unit) =>
 M.join (fun (j48_ : (Bool) × Unit) =>
 M.ite j48_.1
 (M.pure (.bool false))
 (go2_ (()))) fun go49_ =>
 M.ite (!(eqB r47_.2.1 0))
 (go49_ (true, ()))
 (go49_ ((!(seq r47_.1 x.1)), ())))
 (M.join (fun (j52_ : (Bool) × Unit) =>
 M.ite j52_.1
 (M.pure (.bool false))
 (go2_ (()))) fun go53_ =>
 M.ite (ltB 0 ((r0_.1.2.1 : Nat) : Int))
 (go53_ (true, ()))
 (M.ite (!(eqB r0_.2.1 30))
 (go53_ ((!(eqB r0_.2.1 31)), ()))
 (go53_ (false, ()))))
def f4c4 (X : XT) (L : LoopI) (x : (ByteArray) × (SL) × Unit) (r0_ : (SL) × (Int) × Unit) : M (Value) :=
 M.join (fun (j1_ : Unit) =>
 M.callS (.tuple [(.cell .string), (.cell (.int .i64))]) (X (.call 8 [(.slice x.2.1.1 x.2.1.2.1 x.2.1.2.2)])) fun (r3_ : (ByteArray) × (Int) × Unit) =>
 M.bind (L (σ := (Int) × (Bool) × (Int) × Unit) (ρ := ((Int) × (Bool) × Unit) ⊕ (Unit)) (fun s4_ =>
 M.ite (ltB s4_.2.2.1 ((x.2.1.2.1 : Nat) : Int))
 (f4c0 X L x s4_)
 (M.pure (.inr (.inl (s4_.1, s4_.2.1, ()))))) (0, true, 0, ())) <| M.sum (fun (j19_ : (Int) × (Bool) × Unit) =>
 f4c2 X L x r3_ j19_) (fun _ => M.stuck)) fun go2_ =>
 f4c3 X L x r0_ go2_ (eqB r0_.2.1 0)
def f4 (X : XT) (L : LoopI) (x : (ByteArray) × (SL) × Unit) : M Value :=
 M.callS (.tuple [(.cell .slice), (.cell (.int .i64))]) (X (.call 6 [(.string x.1)])) fun (r0_ : (SL) × (Int) × Unit) =>
 f4c4 X L x r0_

theorem e4 (X : XT) (L : LoopI) (x : (ByteArray) × (SL) × Unit) : evBody CC { call := X, loop := L } 4 (shsInj [(.cell .string), (.cell .slice)] x) = f4 X L x := by kernel_rfl

/-- hayrick/hayricklaw22.PathOrder -/
def f5c0 (X : XT) (L : LoopI) (x : (ByteArray) × (ByteArray) × (ByteArray) × Unit) (r0_ : Bool) (r6_ : (SL) × (Int) × Unit) (go10_ : ((Bool) × Unit) → M (Value)) (v18_ : Bool) : M (Value) :=
 M.ite v18_
 (M.ite (eqB r6_.2.1 0)
 (M.ite (!(seq x.1 st1))
 (M.ite (ltB ((x.1.size : Nat) : Int) ((x.2.1.size : Nat) : Int))
 (let v24_ : Int := ((x.1.size : Nat) : Int)
 M.guard (upB v24_ x.2.1.size)
 (M.ite (seq (x.2.1.extract 0 (Int.toNat v24_)) x.1)
 (let v28_ : Int := ((x.1.size : Nat) : Int)
 M.guard (inB v28_ x.2.1.size)
 (go10_ ((!(r0_ == (eqB (byteAt x.2.1 v28_) 47))), ())))
 (go10_ ((!(r0_ == false)), ()))))
 (go10_ ((!(r0_ == false)), ())))
 (go10_ (false, ())))
 (go10_ (false, ())))
 (go10_ (false, ()))
def f5c1 (X : XT) (L : LoopI) (x : (ByteArray) × (ByteArray) × (ByteArray) × Unit) (r0_ : Bool) (r5_ : (SL) × (Int) × Unit) (r6_ : (SL) × (Int) × Unit) (j7_ : (Bool) × Unit) : M (Value) :=
 M.ite j7_.1
 (M.pure (.bool false))
 (M.join (fun (j9_ : (Bool) × Unit) =>
 M.ite j9_.1
 (M.pure (.bool false))
 (M.join (fun (j11_ : (Bool) × Unit) =>
 M.ite j11_.1
 (M.pure (.bool false))
 (M.callS (.one (.cell .bool)) (X (.call 13 [])) fun (r13_ : Bool) =>
 M.pure (.bool r13_))) fun go12_ =>
 M.ite (eqB r5_.2.1 0)
 (M.callS (.one (.cell .bool)) (X (.call 11 [(.string st1), (.string x.1)])) fun (r15_ : Bool) =>
 go12_ ((!(r15_ == (!(seq x.1 st1)))), ()))
 (go12_ (false, ())))) fun go10_ =>
 f5c0 X L x r0_ r6_ go10_ (eqB r5_.2.1 0))
def f5c2 (X : XT) (L : LoopI) (x : (ByteArray) × (ByteArray) × (ByteArray) × Unit) (r0_ : Bool) (r5_ : (SL) × (Int) × Unit) : M (Value) :=
 M.callS (.tuple [(.cell .slice), (.cell (.int .i64))]) (X (.call 6 [(.string x.2.1)])) fun (r6_ : (SL) × (Int) × Unit) =>
 M.join (fun (j7_ : (Bool) × Unit) =>
 f5c1 X L x r0_ r5_ r6_ j7_) fun go8_ =>
 M.ite r0_
 (M.ite (!(eqB r5_.2.1 0))
 (go8_ (true, ()))
 (M.ite (!(eqB r6_.2.1 0))
 (go8_ (true, ()))
 (M.ite (leB ((x.2.1.size : Nat) : Int) ((x.1.size : Nat) : Int))
 (go8_ (true, ()))
 (let v39_ : Int := ((x.1.size : Nat) : Int)
 M.guard (upB v39_ x.2.1.size)
 (go8_ ((!(seq (x.2.1.extract 0 (Int.toNat v39_)) x.1)), ()))))))
 (go8_ (false, ()))
def f5c3 (X : XT) (L : LoopI) (x : (ByteArray) × (ByteArray) × (ByteArray) × Unit) (r0_ : Bool) (r1_ : Bool) (r2_ : Bool) : M (Value) :=
 M.join (fun (j3_ : (Bool) × Unit) =>
 M.ite j3_.1
 (M.pure (.bool false))
 (M.callS (.tuple [(.cell .slice), (.cell (.int .i64))]) (X (.call 6 [(.string x.1)])) fun (r5_ : (SL) × (Int) × Unit) =>
 f5c2 X L x r0_ r5_)) fun go4_ =>
 M.callS (.one (.cell .bool)) (X (.call 11 [(.string x.1), (.string x.1)])) fun (r43_ : Bool) =>
 M.ite r43_
 (go4_ (true, ()))
 (M.ite r0_
 (M.callS (.one (.cell .bool)) (X (.call 11 [(.string x.2.1), (.string x.1)])) fun (r44_ : Bool) =>
 M.ite r44_
 (go4_ (true, ()))
 (M.ite r0_
 (M.ite r1_
 (go4_ ((!r2_), ()))
 (go4_ (false, ())))
 (go4_ (false, ()))))
 (M.ite r0_
 (M.ite r1_
 (go4_ ((!r2_), ()))
 (go4_ (false, ())))
 (go4_ (false, ()))))
def f5 (X : XT) (L : LoopI) (x : (ByteArray) × (ByteArray) × (ByteArray) × Unit) : M Value :=
 M.callS (.one (.cell .bool)) (X (.call 11 [(.string x.1), (.string x.2.1)])) fun (r0_ : Bool) =>
 M.callS (.one (.cell .bool)) (X (.call 11 [(.string x.2.1), (.string x.2.2.1)])) fun (r1_ : Bool) =>
 M.callS (.one (.cell .bool)) (X (.call 11 [(.string x.1), (.string x.2.2.1)])) fun (r2_ : Bool) =>
 f5c3 X L x r0_ r1_ r2_

theorem e5 (X : XT) (L : LoopI) (x : (ByteArray) × (ByteArray) × (ByteArray) × Unit) : evBody CC { call := X, loop := L } 5 (shsInj [(.cell .string), (.cell .string), (.cell .string)] x) = f5 X L x := by kernel_rfl

/-- hayrick/path.Split -/
def f6c0 (X : XT) (L : LoopI) (r5_ : SL) (v7_ : Int) : M (Value) :=
 M.bind (L (σ := (Int) × Unit) (ρ := (Unit) ⊕ (((SL) × (Int) × Unit) ⊕ (Unit))) (fun s8_ =>
 M.ite (ltB s8_.1 v7_)
 (M.guard (inB s8_.1 r5_.2.1)
 (M.deref r5_.1 fun a10_ =>
 M.load (.cell .string) 1 (a10_.add ((Int.toNat s8_.1) * 1)) fun (x11_ : ByteArray) =>
 M.callS (.one (.cell .bool)) (X (.call 14 [(.string x11_)])) fun (r12_ : Bool) =>
 M.ite (!r12_)
 (M.pure (.inr (.inr (.inl ((none, 0, 0), 31, ())))))
 (M.pure (.inl ((addW .i64 s8_.1 1), ())))))
 (M.pure (.inr (.inl (()))))) (0, ())) <| M.sum (fun (j15_ : Unit) =>
 M.pure (.tuple ⟨[(.slice r5_.1 r5_.2.1 r5_.2.2), (.int .i64 0)]⟩)) (M.sum (fun (j16_ : (SL) × (Int) × Unit) =>
 M.pure (.tuple ⟨[(.slice j16_.1.1 j16_.1.2.1 j16_.1.2.2), (.int .i64 j16_.2.1)]⟩)) (fun _ => M.stuck))
def f6c1 (X : XT) (L : LoopI) (x : (ByteArray) × Unit) (j0_ : (Bool) × Unit) : M (Value) :=
 M.ite j0_.1
 (M.pure (.tuple ⟨[(.slice none 0 0), (.int .i64 30)]⟩))
 (M.ite (seq x.1 st1)
 (M.pure (.tuple ⟨[(.slice none 0 0), (.int .i64 0)]⟩))
 (M.guard (upB 1 x.1.size)
 (M.callS (.one (.cell .slice)) (X (.call 16 [(.string (x.1.extract (Int.toNat 1) x.1.size))])) fun (r5_ : SL) =>
 M.callS (.one (.cell .bool)) (X (.call 17 [(.slice r5_.1 r5_.2.1 r5_.2.2), (.string st0)])) fun (r6_ : Bool) =>
 M.ite r6_
 (M.pure (.tuple ⟨[(.slice none 0 0), (.int .i64 30)]⟩))
 (f6c0 X L r5_ ((r5_.2.1 : Nat) : Int)))))
def f6 (X : XT) (L : LoopI) (x : (ByteArray) × Unit) : M Value :=
 M.join (fun (j0_ : (Bool) × Unit) =>
 f6c1 X L x j0_) fun go1_ =>
 M.ite (ltB 256 ((x.1.size : Nat) : Int))
 (go1_ (true, ()))
 (M.callS (.one (.cell .bool)) (X (.call 15 [(.string x.1), (.string st1)])) fun (r19_ : Bool) =>
 go1_ ((!r19_), ()))

theorem e6 (X : XT) (L : LoopI) (x : (ByteArray) × Unit) : evBody CC { call := X, loop := L } 6 (shsInj [(.cell .string)] x) = f6 X L x := by kernel_rfl

/-- hayrick/hayrickref22.Split -/
def f7c0 (X : XT) (L : LoopI) (x : (ByteArray) × Unit) (s8_ : (SL) × (Int) × (Int) × Unit) (go12_ : ((SL) × (Int) × Unit) → M (((SL) × (Int) × (Int) × Unit) ⊕ (((SL) × Unit) ⊕ (((SL) × (Int) × Unit) ⊕ (Unit))))) (j14_ : (Bool) × Unit) : M (((SL) × (Int) × (Int) × Unit) ⊕ (((SL) × Unit) ⊕ (((SL) × (Int) × Unit) ⊕ (Unit)))) :=
 M.ite j14_.1
 (M.ite (eqB s8_.2.2.1 s8_.2.1)
 (M.pure (.inr (.inr (.inl ((none, 0, 0), 30, ())))))
 (M.guard (upB s8_.2.2.1 x.1.size)
 (let v17_ : Nat := (Int.toNat s8_.2.2.1)
 M.guard (upB s8_.2.1 v17_)
 (M.new (.cells (Row.ofList [(.string (x.1.extract (Int.toNat s8_.2.1) v17_))]) 9 false (0, 0) false) fun b20_ =>
 M.append 9 1 16 s8_.1.1 s8_.1.2.1 s8_.1.2.2 (.slice (some (Addr.mk b20_ 0 none)) 1 1) fun a21_ n22_ c23_ =>
 go12_ ((a21_, n22_, c23_), (addW .i64 s8_.2.2.1 1), ())))))
 (go12_ (s8_.1, s8_.2.1, ()))
def f7c1 (X : XT) (L : LoopI) (j29_ : (SL) × Unit) : M (Value) :=
 M.bind (L (σ := (Int) × Unit) (ρ := (Unit) ⊕ (((SL) × (Int) × Unit) ⊕ (Unit))) (fun s30_ =>
 M.ite (ltB s30_.1 ((j29_.1.2.1 : Nat) : Int))
 (M.guard (inB s30_.1 j29_.1.2.1)
 (M.deref j29_.1.1 fun a33_ =>
 M.load (.cell .string) 1 (a33_.add ((Int.toNat s30_.1) * 1)) fun (x34_ : ByteArray) =>
 M.callS (.one (.cell .bool)) (X (.call 18 [(.string x34_)])) fun (r35_ : Bool) =>
 M.ite (!r35_)
 (M.pure (.inr (.inr (.inl ((none, 0, 0), 31, ())))))
 (M.pure (.inl ((addW .i64 s30_.1 1), ())))))
 (M.pure (.inr (.inl (()))))) (0, ())) <| M.sum (fun (j38_ : Unit) =>
 M.pure (.tuple ⟨[(.slice j29_.1.1 j29_.1.2.1 j29_.1.2.2), (.int .i64 0)]⟩)) (M.sum (fun (j39_ : (SL) × (Int) × Unit) =>
 M.pure (.tuple ⟨[(.slice j39_.1.1 j39_.1.2.1 j39_.1.2.2), (.int .i64 j39_.2.1)]⟩)) (fun _ => M.stuck))
def f7c2 (X : XT) (L : LoopI) (x : (ByteArray) × Unit) : M (Value) :=
 M.bind (L (σ := (SL) × (Int) × (Int) × Unit) (ρ := ((SL) × Unit) ⊕ (((SL) × (Int) × Unit) ⊕ (Unit))) (fun s8_ =>
 M.ite (leB s8_.2.2.1 ((x.1.size : Nat) : Int))
 (M.join (fun (j11_ : (SL) × (Int) × Unit) =>
 M.pure (.inl (j11_.1, j11_.2.1, (addW .i64 s8_.2.2.1 1), ()))) fun go12_ =>
 M.join (fun (j14_ : (Bool) × Unit) =>
 f7c0 X L x s8_ go12_ j14_) fun go15_ =>
 M.ite (eqB s8_.2.2.1 ((x.1.size : Nat) : Int))
 (go15_ (true, ()))
 (M.guard (inB s8_.2.2.1 x.1.size)
 (go15_ ((eqB (byteAt x.1 s8_.2.2.1) 47), ()))))
 (M.pure (.inr (.inl (s8_.1, ()))))) ((none, 0, 0), 1, 1, ())) <| M.sum (fun (j29_ : (SL) × Unit) =>
 f7c1 X L j29_) (M.sum (fun (j40_ : (SL) × (Int) × Unit) =>
 M.pure (.tuple ⟨[(.slice j40_.1.1 j40_.1.2.1 j40_.1.2.2), (.int .i64 j40_.2.1)]⟩)) (fun _ => M.stuck))
def f7c3 (X : XT) (L : LoopI) (x : (ByteArray) × Unit) : M (Value) :=
 M.join (fun (j0_ : (Bool) × Unit) =>
 M.ite j0_.1
 (M.pure (.tuple ⟨[(.slice none 0 0), (.int .i64 30)]⟩))
 (M.ite (eqB ((x.1.size : Nat) : Int) 1)
 (M.pure (.tuple ⟨[(.slice none 0 0), (.int .i64 0)]⟩))
 (let v5_ : Int := subW .i64 ((x.1.size : Nat) : Int) 1
 M.guard (inB v5_ x.1.size)
 (M.ite (eqB (byteAt x.1 v5_) 47)
 (M.pure (.tuple ⟨[(.slice none 0 0), (.int .i64 30)]⟩))
 (f7c2 X L x))))) fun go1_ =>
 M.ite (eqB ((x.1.size : Nat) : Int) 0)
 (go1_ (true, ()))
 (M.ite (ltB 256 ((x.1.size : Nat) : Int))
 (go1_ (true, ()))
 (M.guard (inB 0 x.1.size)
 (go1_ ((!(eqB (byteAt x.1 0) 47)), ()))))
def f7 (X : XT) (L : LoopI) (x : (ByteArray) × Unit) : M Value :=
 f7c3 X L x

theorem e7 (X : XT) (L : LoopI) (x : (ByteArray) × Unit) : evBody CC { call := X, loop := L } 7 (shsInj [(.cell .string)] x) = f7 X L x := by kernel_rfl

/-- hayrick/path.Join -/
def f8c0 (X : XT) (L : LoopI) (x : (SL) × Unit) (v0_ : Int) : M (Value) :=
 M.bind (L (σ := (Int) × Unit) (ρ := (Unit) ⊕ (((ByteArray) × (Int) × Unit) ⊕ (Unit))) (fun s1_ =>
 M.ite (ltB s1_.1 v0_)
 (M.guard (inB s1_.1 x.1.2.1)
 (M.deref x.1.1 fun a3_ =>
 M.load (.cell .string) 1 (a3_.add ((Int.toNat s1_.1) * 1)) fun (x4_ : ByteArray) =>
 M.callS (.one (.cell .bool)) (X (.call 14 [(.string x4_)])) fun (r5_ : Bool) =>
 M.ite (!r5_)
 (M.pure (.inr (.inr (.inl (st0, 31, ())))))
 (M.pure (.inl ((addW .i64 s1_.1 1), ())))))
 (M.pure (.inr (.inl (()))))) (0, ())) <| M.sum (fun (j8_ : Unit) =>
 M.callS (.one (.cell .string)) (X (.call 19 [(.slice x.1.1 x.1.2.1 x.1.2.2)])) fun (r9_ : ByteArray) =>
 M.ite (ltB 256 ((r9_.size : Nat) : Int))
 (M.pure (.tuple ⟨[(.string st0), (.int .i64 30)]⟩))
 (M.ite (seq r9_ st0)
 (M.pure (.tuple ⟨[(.string st1), (.int .i64 0)]⟩))
 (M.pure (.tuple ⟨[(.string r9_), (.int .i64 0)]⟩)))) (M.sum (fun (j13_ : (ByteArray) × (Int) × Unit) =>
 M.pure (.tuple ⟨[(.string j13_.1), (.int .i64 j13_.2.1)]⟩)) (fun _ => M.stuck))
def f8 (X : XT) (L : LoopI) (x : (SL) × Unit) : M Value :=
 f8c0 X L x ((x.1.2.1 : Nat) : Int)

theorem e8 (X : XT) (L : LoopI) (x : (SL) × Unit) : evBody CC { call := X, loop := L } 8 (shsInj [(.cell .slice)] x) = f8 X L x := by kernel_rfl

/-- hayrick/hayrickref22.Join -/
def f9c0 (X : XT) (L : LoopI) (x : (SL) × Unit) (s0_ : (ByteArray) × (Int) × Unit) (go4_ : ((ByteArray) × Unit) → M (((ByteArray) × (Int) × Unit) ⊕ (((ByteArray) × Unit) ⊕ (((ByteArray) × (Int) × Unit) ⊕ (Unit))))) (x7_ : ByteArray) : M (((ByteArray) × (Int) × Unit) ⊕ (((ByteArray) × Unit) ⊕ (((ByteArray) × (Int) × Unit) ⊕ (Unit)))) :=
 M.callS (.one (.cell .bool)) (X (.call 18 [(.string x7_)])) fun (r8_ : Bool) =>
 M.ite (!r8_)
 (M.pure (.inr (.inr (.inl (st0, 31, ())))))
 (M.ite (leB ((s0_.1.size : Nat) : Int) 256)
 (M.guard (Nat.ble (s0_.1.size + st1.size) 9223372036854775807)
 (let v12_ : ByteArray := s0_.1 ++ st1
 M.guard (inB s0_.2.1 x.1.2.1)
 (M.deref x.1.1 fun a13_ =>
 M.load (.cell .string) 1 (a13_.add ((Int.toNat s0_.2.1) * 1)) fun (x14_ : ByteArray) =>
 M.guard (Nat.ble (v12_.size + x14_.size) 9223372036854775807)
 (go4_ ((v12_ ++ x14_), ())))))
 (go4_ (s0_.1, ())))
def f9c1 (X : XT) (L : LoopI) (x : (SL) × Unit) : M (Value) :=
 M.bind (L (σ := (ByteArray) × (Int) × Unit) (ρ := ((ByteArray) × Unit) ⊕ (((ByteArray) × (Int) × Unit) ⊕ (Unit))) (fun s0_ =>
 M.ite (ltB s0_.2.1 ((x.1.2.1 : Nat) : Int))
 (M.join (fun (j3_ : (ByteArray) × Unit) =>
 M.pure (.inl (j3_.1, (addW .i64 s0_.2.1 1), ()))) fun go4_ =>
 M.guard (inB s0_.2.1 x.1.2.1)
 (M.deref x.1.1 fun a6_ =>
 M.load (.cell .string) 1 (a6_.add ((Int.toNat s0_.2.1) * 1)) fun (x7_ : ByteArray) =>
 f9c0 X L x s0_ go4_ x7_))
 (M.pure (.inr (.inl (s0_.1, ()))))) (st0, 0, ())) <| M.sum (fun (j16_ : (ByteArray) × Unit) =>
 M.ite (ltB 256 ((j16_.1.size : Nat) : Int))
 (M.pure (.tuple ⟨[(.string st0), (.int .i64 30)]⟩))
 (M.ite (seq j16_.1 st0)
 (M.pure (.tuple ⟨[(.string st1), (.int .i64 0)]⟩))
 (M.pure (.tuple ⟨[(.string j16_.1), (.int .i64 0)]⟩)))) (M.sum (fun (j20_ : (ByteArray) × (Int) × Unit) =>
 M.pure (.tuple ⟨[(.string j20_.1), (.int .i64 j20_.2.1)]⟩)) (fun _ => M.stuck))
def f9 (X : XT) (L : LoopI) (x : (SL) × Unit) : M Value :=
 f9c1 X L x

theorem e9 (X : XT) (L : LoopI) (x : (SL) × Unit) : evBody CC { call := X, loop := L } 9 (shsInj [(.cell .slice)] x) = f9 X L x := by kernel_rfl

/-- hayrick/hayrickref22.Same -/
def f10c0 (X : XT) (L : LoopI) (x : (SL) × (SL) × Unit) : M (Value) :=
 M.bind (L (σ := (Int) × Unit) (ρ := (Unit) ⊕ (((Bool) × Unit) ⊕ (Unit))) (fun s3_ =>
 M.ite (ltB s3_.1 ((x.1.2.1 : Nat) : Int))
 (M.guard (inB s3_.1 x.1.2.1)
 (M.deref x.1.1 fun a6_ =>
 M.load (.cell .string) 1 (a6_.add ((Int.toNat s3_.1) * 1)) fun (x7_ : ByteArray) =>
 M.guard (inB s3_.1 x.2.1.2.1)
 (M.deref x.2.1.1 fun a8_ =>
 M.load (.cell .string) 1 (a8_.add ((Int.toNat s3_.1) * 1)) fun (x9_ : ByteArray) =>
 M.ite (!(seq x7_ x9_))
 (M.pure (.inr (.inr (.inl (false, ())))))
 (M.pure (.inl ((addW .i64 s3_.1 1), ()))))))
 (M.pure (.inr (.inl (()))))) (0, ())) <| M.sum (fun (j12_ : Unit) =>
 M.pure (.bool true)) (M.sum (fun (j13_ : (Bool) × Unit) =>
 M.pure (.bool j13_.1)) (fun _ => M.stuck))
def f10 (X : XT) (L : LoopI) (x : (SL) × (SL) × Unit) : M Value :=
 M.ite (!(eqB ((x.1.2.1 : Nat) : Int) ((x.2.1.2.1 : Nat) : Int)))
 (M.pure (.bool false))
 (f10c0 X L x)

theorem e10 (X : XT) (L : LoopI) (x : (SL) × (SL) × Unit) : evBody CC { call := X, loop := L } 10 (shsInj [(.cell .slice), (.cell .slice)] x) = f10 X L x := by kernel_rfl

/-- hayrick/path.Under -/
def f11c0 (X : XT) (L : LoopI) (r0_ : (SL) × (Int) × Unit) (r1_ : (SL) × (Int) × Unit) : M (Value) :=
 M.join (fun (j2_ : (Bool) × Unit) =>
 M.pure (.bool j2_.1)) fun go3_ =>
 M.ite (eqB r0_.2.1 0)
 (M.ite (eqB r1_.2.1 0)
 (M.ite (ltB ((r0_.1.2.1 : Nat) : Int) ((r1_.1.2.1 : Nat) : Int))
 (let v9_ : Int := ((r0_.1.2.1 : Nat) : Int)
 M.guard (upB v9_ r1_.1.2.2)
 (M.callS (.one (.cell .bool)) (X (.call 20 [(.slice r0_.1.1 r0_.1.2.1 r0_.1.2.2), (.slice (r1_.1.1.map (·.add (0 * 1))) ((Int.toNat v9_) - 0) (r1_.1.2.2 - 0))])) fun (r11_ : Bool) =>
 go3_ (r11_, ())))
 (go3_ (false, ())))
 (go3_ (false, ())))
 (go3_ (false, ()))
def f11 (X : XT) (L : LoopI) (x : (ByteArray) × (ByteArray) × Unit) : M Value :=
 M.callS (.tuple [(.cell .slice), (.cell (.int .i64))]) (X (.call 6 [(.string x.1)])) fun (r0_ : (SL) × (Int) × Unit) =>
 M.callS (.tuple [(.cell .slice), (.cell (.int .i64))]) (X (.call 6 [(.string x.2.1)])) fun (r1_ : (SL) × (Int) × Unit) =>
 f11c0 X L r0_ r1_

theorem e11 (X : XT) (L : LoopI) (x : (ByteArray) × (ByteArray) × Unit) : evBody CC { call := X, loop := L } 11 (shsInj [(.cell .string), (.cell .string)] x) = f11 X L x := by kernel_rfl

/-- hayrick/hayrickref22.Under -/
def f12c0 (X : XT) (L : LoopI) (r0_ : (SL) × (Int) × Unit) (r1_ : (SL) × (Int) × Unit) : M (Value) :=
 M.bind (L (σ := (Int) × Unit) (ρ := (Unit) ⊕ (((Bool) × Unit) ⊕ (Unit))) (fun s4_ =>
 M.ite (ltB s4_.1 ((r0_.1.2.1 : Nat) : Int))
 (M.guard (inB s4_.1 r0_.1.2.1)
 (M.deref r0_.1.1 fun a7_ =>
 M.load (.cell .string) 1 (a7_.add ((Int.toNat s4_.1) * 1)) fun (x8_ : ByteArray) =>
 M.guard (inB s4_.1 r1_.1.2.1)
 (M.deref r1_.1.1 fun a9_ =>
 M.load (.cell .string) 1 (a9_.add ((Int.toNat s4_.1) * 1)) fun (x10_ : ByteArray) =>
 M.ite (!(seq x8_ x10_))
 (M.pure (.inr (.inr (.inl (false, ())))))
 (M.pure (.inl ((addW .i64 s4_.1 1), ()))))))
 (M.pure (.inr (.inl (()))))) (0, ())) <| M.sum (fun (j13_ : Unit) =>
 M.pure (.bool true)) (M.sum (fun (j14_ : (Bool) × Unit) =>
 M.pure (.bool j14_.1)) (fun _ => M.stuck))
def f12c1 (X : XT) (L : LoopI) (x : (ByteArray) × (ByteArray) × Unit) : M (Value) :=
 M.callS (.tuple [(.cell .slice), (.cell (.int .i64))]) (X (.call 7 [(.string x.1)])) fun (r0_ : (SL) × (Int) × Unit) =>
 M.callS (.tuple [(.cell .slice), (.cell (.int .i64))]) (X (.call 7 [(.string x.2.1)])) fun (r1_ : (SL) × (Int) × Unit) =>
 M.join (fun (j2_ : (Bool) × Unit) =>
 M.ite j2_.1
 (M.pure (.bool false))
 (f12c0 X L r0_ r1_)) fun go3_ =>
 M.ite (!(eqB r0_.2.1 0))
 (go3_ (true, ()))
 (M.ite (!(eqB r1_.2.1 0))
 (go3_ (true, ()))
 (go3_ ((leB ((r1_.1.2.1 : Nat) : Int) ((r0_.1.2.1 : Nat) : Int)), ())))
def f12 (X : XT) (L : LoopI) (x : (ByteArray) × (ByteArray) × Unit) : M Value :=
 f12c1 X L x

theorem e12 (X : XT) (L : LoopI) (x : (ByteArray) × (ByteArray) × Unit) : evBody CC { call := X, loop := L } 12 (shsInj [(.cell .string), (.cell .string)] x) = f12 X L x := by kernel_rfl

/-- hayrick/hayricklaw22.wakes -/
def f13c0 (X : XT) (L : LoopI) (r12_ : (SL) × (Int) × Unit) (r13_ : (Int) × (Int) × Unit) (r14_ : (Int) × (Int) × Unit) (r15_ : (Int) × (ByteArray) × (Int) × Unit) : M (Value) :=
 M.join (fun (j16_ : (Bool) × Unit) =>
 M.pure (.bool j16_.1)) fun go17_ =>
 M.ite (eqB r12_.2.1 0)
 (M.ite (eqB ((r12_.1.2.1 : Nat) : Int) 3)
 (M.guard (inB 2 r12_.1.2.1)
 (M.deref r12_.1.1 fun a21_ =>
 M.load (.cell (.int .i64)) 1 (a21_.add ((Int.toNat 2) * 1)) fun (x22_ : Int) =>
 M.ite (eqB x22_ 3)
 (M.ite (eqB r13_.2.1 34)
 (M.ite (eqB r14_.2.1 32)
 (M.ite (eqB r15_.1 2)
 (M.ite (seq r15_.2.1 st10)
 (go17_ ((eqB r15_.2.2.1 0), ()))
 (go17_ (false, ())))
 (go17_ (false, ())))
 (go17_ (false, ())))
 (go17_ (false, ())))
 (go17_ (false, ()))))
 (go17_ (false, ())))
 (go17_ (false, ()))
def f13c1 (X : XT) (L : LoopI) (r10_ : (PA) × (PA) × Unit) (r12_ : (SL) × (Int) × Unit) : M (Value) :=
 M.callS (.tuple [(.cell (.int .i64)), (.cell (.int .i64))]) (X (.call 23 [(.pointer r10_.1), (.string st7)])) fun (r13_ : (Int) × (Int) × Unit) =>
 M.callS (.tuple [(.cell (.int .i64)), (.cell (.int .i64))]) (X (.call 23 [(.pointer r10_.1), (.string st8)])) fun (r14_ : (Int) × (Int) × Unit) =>
 M.callS (.tuple [(.cell (.int .i64)), (.cell .string), (.cell (.int .i64))]) (X (.call 24 [(.pointer r10_.1), (.string st9)])) fun (r15_ : (Int) × (ByteArray) × (Int) × Unit) =>
 f13c0 X L r12_ r13_ r14_ r15_
def f13c2 (X : XT) (L : LoopI) (r0_ : (SL) × (Int) × Unit) (b7_ : Nat) (b8_ : Nat) : M (Value) :=
 M.new (.cells (Row.ofList [(.int .i64 1), (.bool false), (.slice (some (Addr.mk b7_ 0 none)) 1 1), (.int .i64 2), (.bool false), (.slice (some (Addr.mk b8_ 0 none)) 1 1), (.int .i64 3), (.bool true), (.slice none 0 0)]) 50 false (0, 0) false) fun b9_ =>
 M.callS (.tuple [(.cell .ptr), (.cell .ptr)]) (X (.call 21 [(.slice (some (Addr.mk b9_ 0 none)) 3 3)])) fun (r10_ : (PA) × (PA) × Unit) =>
 M.eqPtr r10_.1 none fun (q11_ : Bool) =>
 M.ite q11_
 (M.pure (.bool false))
 (M.callS (.tuple [(.cell .slice), (.cell (.int .i64))]) (X (.call 22 [(.pointer r10_.1), (.slice r0_.1.1 r0_.1.2.1 r0_.1.2.2)])) fun (r12_ : (SL) × (Int) × Unit) =>
 f13c1 X L r10_ r12_)
def f13c3 (X : XT) (L : LoopI) (r2_ : (ByteArray) × (Int) × Unit) (r3_ : (SL) × (Int) × Unit) (r4_ : (SL) × (Int) × Unit) (go6_ : ((Bool) × Unit) → M (Value)) (a32_ : Addr) : M (Value) :=
 M.load (.cell .string) 1 (a32_.add ((Int.toNat 1) * 1)) fun (x33_ : ByteArray) =>
 M.ite (!(seq x33_ st4))
 (go6_ (true, ()))
 (M.ite (!(eqB r2_.2.1 0))
 (go6_ (true, ()))
 (M.ite (!(seq r2_.1 st2))
 (go6_ (true, ()))
 (M.ite (!(eqB r3_.2.1 30))
 (go6_ (true, ()))
 (M.ite (!(eqB r4_.2.1 31))
 (go6_ (true, ()))
 (M.callS (.one (.cell .bool)) (X (.call 11 [(.string st11), (.string st2)])) fun (r39_ : Bool) =>
 M.ite (!r39_)
 (go6_ (true, ()))
 (M.callS (.one (.cell .bool)) (X (.call 11 [(.string st11), (.string st12)])) fun (r41_ : Bool) =>
 go6_ (r41_, ())))))))
def f13c4 (X : XT) (L : LoopI) (r0_ : (SL) × (Int) × Unit) (r2_ : (ByteArray) × (Int) × Unit) (r3_ : (SL) × (Int) × Unit) : M (Value) :=
 M.callS (.tuple [(.cell .slice), (.cell (.int .i64))]) (X (.call 6 [(.string st6)])) fun (r4_ : (SL) × (Int) × Unit) =>
 M.join (fun (j5_ : (Bool) × Unit) =>
 M.ite j5_.1
 (M.pure (.bool false))
 (M.new (.cells (Row.ofList [(.int .i64 2), (.string st3)]) 47 false (0, 0) false) fun b7_ =>
 M.new (.cells (Row.ofList [(.int .i64 3), (.string st4)]) 47 false (0, 0) false) fun b8_ =>
 f13c2 X L r0_ b7_ b8_)) fun go6_ =>
 M.ite (!(eqB r0_.2.1 0))
 (go6_ (true, ()))
 (M.ite (!(eqB ((r0_.1.2.1 : Nat) : Int) 2))
 (go6_ (true, ()))
 (M.guard (inB 1 r0_.1.2.1)
 (M.deref r0_.1.1 fun a32_ =>
 f13c3 X L r2_ r3_ r4_ go6_ a32_)))
def f13c5 (X : XT) (L : LoopI) : M (Value) :=
 M.callS (.tuple [(.cell .slice), (.cell (.int .i64))]) (X (.call 6 [(.string st2)])) fun (r0_ : (SL) × (Int) × Unit) =>
 M.new (.cells (Row.ofList [(.string st3), (.string st4)]) 9 false (0, 0) false) fun b1_ =>
 M.callS (.tuple [(.cell .string), (.cell (.int .i64))]) (X (.call 8 [(.slice (some (Addr.mk b1_ 0 none)) 2 2)])) fun (r2_ : (ByteArray) × (Int) × Unit) =>
 M.callS (.tuple [(.cell .slice), (.cell (.int .i64))]) (X (.call 6 [(.string st5)])) fun (r3_ : (SL) × (Int) × Unit) =>
 f13c4 X L r0_ r2_ r3_
def f13 (X : XT) (L : LoopI) (x : Unit) : M Value :=
 f13c5 X L

theorem e13 (X : XT) (L : LoopI) (x : Unit) : evBody CC { call := X, loop := L } 13 (shsInj [] x) = f13 X L x := by kernel_rfl

/-- hayrick/names.Valid -/
def f14c0 (X : XT) (L : LoopI) (x : (ByteArray) × Unit) : M (Value) :=
 M.new (.iter x.1 0) fun b2_ =>
 M.bind (L (σ := Unit) (ρ := (Unit) ⊕ (((Bool) × Unit) ⊕ (Unit))) (fun s3_ =>
 M.next b2_
 (M.pure (.inr (.inl (())))) fun i4_ c5_ =>
 M.join (fun (j6_ : (Bool) × Unit) =>
 M.ite j6_.1
 (M.pure (.inr (.inr (.inl (false, ())))))
 (M.pure (.inl (())))) fun go7_ =>
 M.ite (eqB c5_ 47)
 (go7_ (true, ()))
 (M.ite (ltB c5_ 32)
 (go7_ (true, ()))
 (go7_ ((eqB c5_ 127), ())))) (())) <| M.sum (fun (j11_ : Unit) =>
 M.pure (.bool true)) (M.sum (fun (j12_ : (Bool) × Unit) =>
 M.pure (.bool j12_.1)) (fun _ => M.stuck))
def f14 (X : XT) (L : LoopI) (x : (ByteArray) × Unit) : M Value :=
 M.join (fun (j0_ : (Bool) × Unit) =>
 M.ite j0_.1
 (M.pure (.bool false))
 (f14c0 X L x)) fun go1_ =>
 M.ite (ltB ((x.1.size : Nat) : Int) 1)
 (go1_ (true, ()))
 (M.ite (ltB 24 ((x.1.size : Nat) : Int))
 (go1_ (true, ()))
 (M.callS (.one (.cell .bool)) (X (.call 25 [(.string x.1)])) fun (r17_ : Bool) =>
 M.ite (!r17_)
 (go1_ (true, ()))
 (M.ite (seq x.1 st13)
 (go1_ (true, ()))
 (go1_ ((seq x.1 st14), ())))))

theorem e14 (X : XT) (L : LoopI) (x : (ByteArray) × Unit) : evBody CC { call := X, loop := L } 14 (shsInj [(.cell .string)] x) = f14 X L x := by kernel_rfl

/-- strings.HasPrefix -/
def f15 (X : XT) (L : LoopI) (x : (ByteArray) × (ByteArray) × Unit) : M Value :=
 M.callS (.one (.cell .bool)) (X (.call 26 [(.string x.1), (.string x.2.1)])) fun (r0_ : Bool) =>
 M.pure (.bool r0_)

theorem e15 (X : XT) (L : LoopI) (x : (ByteArray) × (ByteArray) × Unit) : evBody CC { call := X, loop := L } 15 (shsInj [(.cell .string), (.cell .string)] x) = f15 X L x := by kernel_rfl

/-- hayrick/path.cut -/
def f16c0 (X : XT) (L : LoopI) (x : (ByteArray) × Unit) (b0_ : Nat) (s1_ : (SL) × (Int) × Unit) : M (((SL) × (Int) × Unit) ⊕ (((SL) × (Int) × Unit) ⊕ (Unit))) :=
 M.next b0_
 (M.pure (.inr (.inl (s1_.1, s1_.2.1, ())))) fun i2_ c3_ =>
 M.join (fun (j4_ : (SL) × (Int) × Unit) =>
 M.pure (.inl (j4_.1, j4_.2.1, ()))) fun go5_ =>
 M.ite (eqB c3_ 47)
 (M.guard (upB i2_ x.1.size)
 (let v7_ : Nat := (Int.toNat i2_)
 M.guard (upB s1_.2.1 v7_)
 (M.new (.cells (Row.ofList [(.string (x.1.extract (Int.toNat s1_.2.1) v7_))]) 9 false (0, 0) false) fun b10_ =>
 M.append 9 1 16 s1_.1.1 s1_.1.2.1 s1_.1.2.2 (.slice (some (Addr.mk b10_ 0 none)) 1 1) fun a11_ n12_ c13_ =>
 go5_ ((a11_, n12_, c13_), (addW .i64 i2_ 1), ()))))
 (go5_ (s1_.1, s1_.2.1, ()))
def f16c1 (X : XT) (L : LoopI) (x : (ByteArray) × Unit) : M (Value) :=
 M.new (.iter x.1 0) fun b0_ =>
 M.bind (L (σ := (SL) × (Int) × Unit) (ρ := ((SL) × (Int) × Unit) ⊕ (Unit)) (fun s1_ =>
 f16c0 X L x b0_ s1_) ((none, 0, 0), 0, ())) <| M.sum (fun (j15_ : (SL) × (Int) × Unit) =>
 M.guard (upB j15_.2.1 x.1.size)
 (M.new (.cells (Row.ofList [(.string (x.1.extract (Int.toNat j15_.2.1) x.1.size))]) 9 false (0, 0) false) fun b18_ =>
 M.append 9 1 16 j15_.1.1 j15_.1.2.1 j15_.1.2.2 (.slice (some (Addr.mk b18_ 0 none)) 1 1) fun a19_ n20_ c21_ =>
 M.pure (.slice a19_ n20_ c21_))) (fun _ => M.stuck)
def f16 (X : XT) (L : LoopI) (x : (ByteArray) × Unit) : M Value :=
 f16c1 X L x

theorem e16 (X : XT) (L : LoopI) (x : (ByteArray) × Unit) : evBody CC { call := X, loop := L } 16 (shsInj [(.cell .string)] x) = f16 X L x := by kernel_rfl

/-- slices.Contains[[]string,string] -/
def f17 (X : XT) (L : LoopI) (x : (SL) × (ByteArray) × Unit) : M Value :=
 M.callS (.one (.cell (.int .i64))) (X (.call 27 [(.slice x.1.1 x.1.2.1 x.1.2.2), (.string x.2.1)])) fun (r0_ : Int) =>
 M.pure (.bool (leB 0 r0_))

theorem e17 (X : XT) (L : LoopI) (x : (SL) × (ByteArray) × Unit) : evBody CC { call := X, loop := L } 17 (shsInj [(.cell .slice), (.cell .string)] x) = f17 X L x := by kernel_rfl

/-- hayrick/hayrickref10.Valid -/
def f18c0 (X : XT) (L : LoopI) (x : (ByteArray) × Unit) : M (Value) :=
 M.bind (L (σ := (Int) × Unit) (ρ := (Unit) ⊕ (((Bool) × Unit) ⊕ (Unit))) (fun s2_ =>
 M.ite (ltB s2_.1 ((x.1.size : Nat) : Int))
 (M.join (fun (j5_ : (Bool) × Unit) =>
 M.ite j5_.1
 (M.pure (.inr (.inr (.inl (false, ())))))
 (M.pure (.inl ((addW .i64 s2_.1 1), ())))) fun go6_ =>
 M.guard (inB s2_.1 x.1.size)
 (M.ite (eqB (byteAt x.1 s2_.1) 47)
 (go6_ (true, ()))
 (M.guard (inB s2_.1 x.1.size)
 (M.ite (ltB (byteAt x.1 s2_.1) 32)
 (go6_ (true, ()))
 (M.guard (inB s2_.1 x.1.size)
 (go6_ ((eqB (byteAt x.1 s2_.1) 127), ())))))))
 (M.pure (.inr (.inl (()))))) (0, ())) <| M.sum (fun (j14_ : Unit) =>
 M.pure (.bool true)) (M.sum (fun (j15_ : (Bool) × Unit) =>
 M.pure (.bool j15_.1)) (fun _ => M.stuck))
def f18 (X : XT) (L : LoopI) (x : (ByteArray) × Unit) : M Value :=
 M.join (fun (j0_ : (Bool) × Unit) =>
 M.ite j0_.1
 (M.pure (.bool false))
 (f18c0 X L x)) fun go1_ =>
 M.ite (eqB ((x.1.size : Nat) : Int) 0)
 (go1_ (true, ()))
 (M.ite (ltB 24 ((x.1.size : Nat) : Int))
 (go1_ (true, ()))
 (M.callS (.one (.cell .bool)) (X (.call 28 [(.string x.1)])) fun (r20_ : Bool) =>
 M.ite (!r20_)
 (go1_ (true, ()))
 (M.ite (seq x.1 st13)
 (go1_ (true, ()))
 (go1_ ((seq x.1 st14), ())))))

theorem e18 (X : XT) (L : LoopI) (x : (ByteArray) × Unit) : evBody CC { call := X, loop := L } 18 (shsInj [(.cell .string)] x) = f18 X L x := by kernel_rfl

/-- hayrick/path.written -/
def f19c0 (X : XT) (L : LoopI) (x : (SL) × Unit) (b0_ : Nat) (v1_ : Int) : M (Value) :=
 M.bind (L (σ := (Int) × Unit) (ρ := (Unit) ⊕ (Unit)) (fun s2_ =>
 M.ite (ltB s2_.1 v1_)
 (M.guard (inB s2_.1 x.1.2.1)
 (M.deref x.1.1 fun a4_ =>
 M.load (.cell .string) 1 (a4_.add ((Int.toNat s2_.1) * 1)) fun (x5_ : ByteArray) =>
 M.guard (Nat.ble (st1.size + x5_.size) 9223372036854775807)
 (M.callS (.tuple [(.cell (.int .i64)), (.cell .val)]) (X (.call 29 [(.pointer (some (Addr.mk b0_ 0 none))), (.string (st1 ++ x5_))])) fun (r7_ : (Int) × (Value) × Unit) =>
 M.pure (.inl ((addW .i64 s2_.1 1), ())))))
 (M.pure (.inr (.inl (()))))) (0, ())) <| M.sum (fun (j9_ : Unit) =>
 M.callS (.one (.cell .string)) (X (.call 30 [(.pointer (some (Addr.mk b0_ 0 none)))])) fun (r10_ : ByteArray) =>
 M.pure (.string r10_)) (fun _ => M.stuck)
def f19 (X : XT) (L : LoopI) (x : (SL) × Unit) : M Value :=
 M.new (.cells (Row.ofList [(.pointer none), (.slice none 0 0)]) 63 false (0, 0) false) fun b0_ =>
 f19c0 X L x b0_ ((x.1.2.1 : Nat) : Int)

theorem e19 (X : XT) (L : LoopI) (x : (SL) × Unit) : evBody CC { call := X, loop := L } 19 (shsInj [(.cell .slice)] x) = f19 X L x := by kernel_rfl

/-- slices.Equal[[]string,string] -/
def f20c0 (X : XT) (L : LoopI) (x : (SL) × (SL) × Unit) (v3_ : Int) : M (Value) :=
 M.bind (L (σ := (Int) × Unit) (ρ := (Unit) ⊕ (((Bool) × Unit) ⊕ (Unit))) (fun s4_ =>
 M.ite (ltB s4_.1 v3_)
 (M.guard (inB s4_.1 x.1.2.1)
 (M.deref x.1.1 fun a6_ =>
 M.load (.cell .string) 1 (a6_.add ((Int.toNat s4_.1) * 1)) fun (x7_ : ByteArray) =>
 M.guard (inB s4_.1 x.2.1.2.1)
 (M.deref x.2.1.1 fun a8_ =>
 M.load (.cell .string) 1 (a8_.add ((Int.toNat s4_.1) * 1)) fun (x9_ : ByteArray) =>
 M.ite (!(seq x7_ x9_))
 (M.pure (.inr (.inr (.inl (false, ())))))
 (M.pure (.inl ((addW .i64 s4_.1 1), ()))))))
 (M.pure (.inr (.inl (()))))) (0, ())) <| M.sum (fun (j12_ : Unit) =>
 M.pure (.bool true)) (M.sum (fun (j13_ : (Bool) × Unit) =>
 M.pure (.bool j13_.1)) (fun _ => M.stuck))
def f20 (X : XT) (L : LoopI) (x : (SL) × (SL) × Unit) : M Value :=
 M.ite (!(eqB ((x.1.2.1 : Nat) : Int) ((x.2.1.2.1 : Nat) : Int)))
 (M.pure (.bool false))
 (f20c0 X L x ((x.1.2.1 : Nat) : Int))

theorem e20 (X : XT) (L : LoopI) (x : (SL) × (SL) × Unit) : evBody CC { call := X, loop := L } 20 (shsInj [(.cell .slice), (.cell .slice)] x) = f20 X L x := by kernel_rfl

/-- hayrick/hayricklaw22.tree -/
def f21c0 (X : XT) (L : LoopI) (r0_ : (PA) × (PA) × (PA) × (PA) × Unit) (go6_ : (Unit) → M (((Int) × Unit) ⊕ ((Unit) ⊕ (Unit)))) (x16_ : Int × Int × Int × Int × Int × Int × Int × Int × Int × Int × Int × Unit) (b17_ : Nat) : M (((Int) × Unit) ⊕ ((Unit) ⊕ (Unit))) :=
 M.mark (Addr.mk b17_ 0 none)
 (M.callS (.one (.cell (.int .i64))) (X (.call 33 [(.pointer r0_.2.1), (.agg ⟨[(.int .i64 x16_.1), (.int .i64 x16_.2.1), (.int .i64 x16_.2.2.1), (.int .i64 x16_.2.2.2.1), (.int .u32 x16_.2.2.2.2.1), (.int .u32 x16_.2.2.2.2.2.1), (.int .u32 x16_.2.2.2.2.2.2.1), (.int .u32 x16_.2.2.2.2.2.2.2.1), (.int .u32 x16_.2.2.2.2.2.2.2.2.1), (.int .u32 x16_.2.2.2.2.2.2.2.2.2.1), (.int .u32 x16_.2.2.2.2.2.2.2.2.2.2.1)]⟩), (.slice (some (Addr.mk b17_ 0 none)) 1 1), (.bool true)])) fun (r18_ : Int) =>
 go6_ (()))
def f21c1 (X : XT) (L : LoopI) (r0_ : (PA) × (PA) × (PA) × (PA) × Unit) (go6_ : (Unit) → M (((Int) × Unit) ⊕ ((Unit) ⊕ (Unit)))) (b12_ : Nat) (x13_ : Int × Int × Int × Int × Int × Int × Int × Int × Int × Int × Int × Unit) (b14_ : Nat) : M (((Int) × Unit) ⊕ ((Unit) ⊕ (Unit))) :=
 M.callS (.one (.cell (.int .i64))) (X (.call 32 [(.pointer r0_.1), (.agg ⟨[(.int .i64 x13_.1), (.int .i64 x13_.2.1), (.int .i64 x13_.2.2.1), (.int .i64 x13_.2.2.2.1), (.int .u32 x13_.2.2.2.2.1), (.int .u32 x13_.2.2.2.2.2.1), (.int .u32 x13_.2.2.2.2.2.2.1), (.int .u32 x13_.2.2.2.2.2.2.2.1), (.int .u32 x13_.2.2.2.2.2.2.2.2.1), (.int .u32 x13_.2.2.2.2.2.2.2.2.2.1), (.int .u32 x13_.2.2.2.2.2.2.2.2.2.2.1)]⟩), (.slice (some (Addr.mk b14_ 0 none)) 1 1), (.bool true)])) fun (r15_ : Int) =>
 M.load (.agg [(.int .i64), (.int .i64), (.int .i64), (.int .i64), (.int .u32), (.int .u32), (.int .u32), (.int .u32), (.int .u32), (.int .u32), (.int .u32)]) 11 (Addr.mk b12_ 0 none) fun (x16_ : Int × Int × Int × Int × Int × Int × Int × Int × Int × Int × Int × Unit) =>
 M.new (.cells (Row.ofList [(.int .u8 120)]) 5 false (0, 0) false) fun b17_ =>
 f21c0 X L r0_ go6_ x16_ b17_
def f21c2 (X : XT) (L : LoopI) (r0_ : (PA) × (PA) × (PA) × (PA) × Unit) (go6_ : (Unit) → M (((Int) × Unit) ⊕ ((Unit) ⊕ (Unit)))) (x11_ : Int) (b12_ : Nat) : M (((Int) × Unit) ⊕ ((Unit) ⊕ (Unit))) :=
 M.store (Addr.mk b12_ 0 none) [(.int .i64 x11_), (.int .i64 1), (.int .i64 0), (.int .i64 1), (.int .u32 0), (.int .u32 0), (.int .u32 0), (.int .u32 0), (.int .u32 0), (.int .u32 0), (.int .u32 0)]
 (M.load (.agg [(.int .i64), (.int .i64), (.int .i64), (.int .i64), (.int .u32), (.int .u32), (.int .u32), (.int .u32), (.int .u32), (.int .u32), (.int .u32)]) 11 (Addr.mk b12_ 0 none) fun (x13_ : Int × Int × Int × Int × Int × Int × Int × Int × Int × Int × Int × Unit) =>
 M.new (.cells (Row.ofList [(.int .u8 120)]) 5 false (0, 0) false) fun b14_ =>
 M.mark (Addr.mk b14_ 0 none)
 (f21c1 X L r0_ go6_ b12_ x13_ b14_))
def f21c3 (X : XT) (L : LoopI) (x : (SL) × Unit) (r0_ : (PA) × (PA) × (PA) × (PA) × Unit) (s2_ : (Int) × Unit) (go6_ : (Unit) → M (((Int) × Unit) ⊕ ((Unit) ⊕ (Unit)))) (x20_ : Int) (x22_ : SL) : M (((Int) × Unit) ⊕ ((Unit) ⊕ (Unit))) :=
 M.callS (.one (.cell (.int .i64))) (X (.call 34 [(.pointer r0_.1), (.int .i64 x20_), (.slice x22_.1 x22_.2.1 x22_.2.2), (.bool true)])) fun (r23_ : Int) =>
 M.guard (inB s2_.1 x.1.2.1)
 (M.deref x.1.1 fun a24_ =>
 M.load (.cell (.int .i64)) 1 ((a24_.add ((Int.toNat s2_.1) * 3)).add 0) fun (x25_ : Int) =>
 M.guard (inB s2_.1 x.1.2.1)
 (M.deref x.1.1 fun a26_ =>
 M.load (.cell .slice) 1 ((a26_.add ((Int.toNat s2_.1) * 3)).add 2) fun (x27_ : SL) =>
 M.callS (.one (.cell (.int .i64))) (X (.call 35 [(.pointer r0_.2.1), (.int .i64 x25_), (.slice x27_.1 x27_.2.1 x27_.2.2), (.bool true)])) fun (r28_ : Int) =>
 go6_ (())))
def f21c4 (X : XT) (L : LoopI) (x : (SL) × Unit) (r0_ : (PA) × (PA) × (PA) × (PA) × Unit) (s2_ : (Int) × Unit) (go6_ : (Unit) → M (((Int) × Unit) ⊕ ((Unit) ⊕ (Unit)))) (x9_ : Bool) : M (((Int) × Unit) ⊕ ((Unit) ⊕ (Unit))) :=
 M.ite x9_
 (M.guard (inB s2_.1 x.1.2.1)
 (M.deref x.1.1 fun a10_ =>
 M.load (.cell (.int .i64)) 1 ((a10_.add ((Int.toNat s2_.1) * 3)).add 0) fun (x11_ : Int) =>
 M.new (.cells (Row.ofList [(.int .i64 0), (.int .i64 0), (.int .i64 0), (.int .i64 0), (.int .u32 0), (.int .u32 0), (.int .u32 0), (.int .u32 0), (.int .u32 0), (.int .u32 0), (.int .u32 0)]) 76 false (0, 0) false) fun b12_ =>
 f21c2 X L r0_ go6_ x11_ b12_))
 (M.guard (inB s2_.1 x.1.2.1)
 (M.deref x.1.1 fun a19_ =>
 M.load (.cell (.int .i64)) 1 ((a19_.add ((Int.toNat s2_.1) * 3)).add 0) fun (x20_ : Int) =>
 M.guard (inB s2_.1 x.1.2.1)
 (M.deref x.1.1 fun a21_ =>
 M.load (.cell .slice) 1 ((a21_.add ((Int.toNat s2_.1) * 3)).add 2) fun (x22_ : SL) =>
 f21c3 X L x r0_ s2_ go6_ x20_ x22_)))
def f21c5 (X : XT) (L : LoopI) (x : (SL) × Unit) (r0_ : (PA) × (PA) × (PA) × (PA) × Unit) : M (Value) :=
 M.bind (L (σ := (Int) × Unit) (ρ := (Unit) ⊕ (Unit)) (fun s2_ =>
 M.join (fun (j3_ : (Bool) × Unit) =>
 M.ite j3_.1
 (M.join (fun (j5_ : Unit) =>
 M.pure (.inl ((addW .i64 s2_.1 1), ()))) fun go6_ =>
 M.guard (inB s2_.1 x.1.2.1)
 (M.deref x.1.1 fun a8_ =>
 M.load (.cell .bool) 1 ((a8_.add ((Int.toNat s2_.1) * 3)).add 1) fun (x9_ : Bool) =>
 f21c4 X L x r0_ s2_ go6_ x9_))
 (M.pure (.inr (.inl (()))))) fun go4_ =>
 M.ite (ltB s2_.1 ((x.1.2.1 : Nat) : Int))
 (go4_ ((ltB s2_.1 30), ()))
 (go4_ (false, ()))) (0, ())) <| M.sum (fun (j32_ : Unit) =>
 M.pure (.tuple ⟨[(.pointer r0_.1), (.pointer r0_.2.1)]⟩)) (fun _ => M.stuck)
def f21 (X : XT) (L : LoopI) (x : (SL) × Unit) : M Value :=
 M.callS (.tuple [(.cell .ptr), (.cell .ptr), (.cell .ptr), (.cell .ptr)]) (X (.call 31 [(.int .i64 4), (.int .i64 1), (.int .i64 128)])) fun (r0_ : (PA) × (PA) × (PA) × (PA) × Unit) =>
 M.eqPtr r0_.1 none fun (q1_ : Bool) =>
 M.ite q1_
 (M.pure (.tuple ⟨[(.pointer none), (.pointer none)]⟩))
 (f21c5 X L x r0_)

theorem e21 (X : XT) (L : LoopI) (x : (SL) × Unit) : evBody CC { call := X, loop := L } 21 (shsInj [(.cell .slice)] x) = f21 X L x := by kernel_rfl

/-- hayrick/path.Walk -/
def f22c0 (X : XT) (L : LoopI) (x : (PA) × (SL) × Unit) (s4_ : (SL) × (Int) × Unit) (x7_ : ByteArray) (a8_ : Addr) : M (((SL) × (Int) × Unit) ⊕ (((SL) × Unit) ⊕ (((SL) × (Int) × Unit) ⊕ (Unit)))) :=
 M.load (.cell (.int .i64)) 1 (a8_.add ((Int.toNat s4_.2.1) * 1)) fun (x9_ : Int) =>
 M.callS (.tuple [(.cell (.int .i64)), (.cell (.int .i64))]) (X (.call 37 [(.pointer x.1), (.int .i64 x9_), (.string x7_)])) fun (r10_ : (Int) × (Int) × Unit) =>
 M.ite (!(eqB r10_.2.1 0))
 (M.pure (.inr (.inr (.inl ((none, 0, 0), r10_.2.1, ())))))
 (M.new (.cells (Row.ofList [(.int .i64 r10_.1)]) 3 false (0, 0) false) fun b12_ =>
 M.append 3 1 8 s4_.1.1 s4_.1.2.1 s4_.1.2.2 (.slice (some (Addr.mk b12_ 0 none)) 1 1) fun a13_ n14_ c15_ =>
 M.pure (.inl ((a13_, n14_, c15_), (addW .i64 s4_.2.1 1), ())))
def f22c1 (X : XT) (L : LoopI) (x : (PA) × (SL) × Unit) (b2_ : Nat) (v3_ : Int) : M (Value) :=
 M.bind (L (σ := (SL) × (Int) × Unit) (ρ := ((SL) × Unit) ⊕ (((SL) × (Int) × Unit) ⊕ (Unit))) (fun s4_ =>
 M.ite (ltB s4_.2.1 v3_)
 (M.guard (inB s4_.2.1 x.2.1.2.1)
 (M.deref x.2.1.1 fun a6_ =>
 M.load (.cell .string) 1 (a6_.add ((Int.toNat s4_.2.1) * 1)) fun (x7_ : ByteArray) =>
 M.guard (inB s4_.2.1 s4_.1.2.1)
 (M.deref s4_.1.1 fun a8_ =>
 f22c0 X L x s4_ x7_ a8_)))
 (M.pure (.inr (.inl (s4_.1, ()))))) (((some (Addr.mk b2_ 0 none)), 1, 1), 0, ())) <| M.sum (fun (j17_ : (SL) × Unit) =>
 M.pure (.tuple ⟨[(.slice j17_.1.1 j17_.1.2.1 j17_.1.2.2), (.int .i64 0)]⟩)) (M.sum (fun (j18_ : (SL) × (Int) × Unit) =>
 M.pure (.tuple ⟨[(.slice j18_.1.1 j18_.1.2.1 j18_.1.2.2), (.int .i64 j18_.2.1)]⟩)) (fun _ => M.stuck))
def f22 (X : XT) (L : LoopI) (x : (PA) × (SL) × Unit) : M Value :=
 M.join (fun (j0_ : (Bool) × Unit) =>
 M.ite j0_.1
 (M.pure (.tuple ⟨[(.slice none 0 0), (.int .i64 2)]⟩))
 (M.new (.cells (Row.ofList [(.int .i64 1)]) 3 false (0, 0) false) fun b2_ =>
 f22c1 X L x b2_ ((x.2.1.2.1 : Nat) : Int))) fun go1_ =>
 M.eqPtr x.1 none fun (q19_ : Bool) =>
 M.ite q19_
 (go1_ (true, ()))
 (M.callS (.one (.cell .ptr)) (X (.call 36 [(.pointer x.1)])) fun (r20_ : PA) =>
 M.eqPtr r20_ none fun (q21_ : Bool) =>
 go1_ (q21_, ()))

theorem e22 (X : XT) (L : LoopI) (x : (PA) × (SL) × Unit) : evBody CC { call := X, loop := L } 22 (shsInj [(.cell .ptr), (.cell .slice)] x) = f22 X L x := by kernel_rfl

/-- hayrick/path.Find -/
def f23c0 (X : XT) (L : LoopI) (x : (PA) × (ByteArray) × Unit) (r2_ : (SL) × (Int) × Unit) (v3_ : Bool) : M (Value) :=
 M.ite v3_
 (M.pure (.tuple ⟨[(.int .i64 0), (.int .i64 r2_.2.1)]⟩))
 (M.callS (.tuple [(.cell .slice), (.cell (.int .i64))]) (X (.call 22 [(.pointer x.1), (.slice r2_.1.1 r2_.1.2.1 r2_.1.2.2)])) fun (r4_ : (SL) × (Int) × Unit) =>
 M.ite (!(eqB r4_.2.1 0))
 (M.pure (.tuple ⟨[(.int .i64 0), (.int .i64 r4_.2.1)]⟩))
 (let v7_ : Int := subW .i64 ((r4_.1.2.1 : Nat) : Int) 1
 M.guard (inB v7_ r4_.1.2.1)
 (M.deref r4_.1.1 fun a8_ =>
 M.load (.cell (.int .i64)) 1 (a8_.add ((Int.toNat v7_) * 1)) fun (x9_ : Int) =>
 M.pure (.tuple ⟨[(.int .i64 x9_), (.int .i64 0)]⟩))))
def f23 (X : XT) (L : LoopI) (x : (PA) × (ByteArray) × Unit) : M Value :=
 M.join (fun (j0_ : (Bool) × Unit) =>
 M.ite j0_.1
 (M.pure (.tuple ⟨[(.int .i64 0), (.int .i64 2)]⟩))
 (M.callS (.tuple [(.cell .slice), (.cell (.int .i64))]) (X (.call 6 [(.string x.2.1)])) fun (r2_ : (SL) × (Int) × Unit) =>
 f23c0 X L x r2_ (!(eqB r2_.2.1 0)))) fun go1_ =>
 M.eqPtr x.1 none fun (q10_ : Bool) =>
 M.ite q10_
 (go1_ (true, ()))
 (M.callS (.one (.cell .ptr)) (X (.call 36 [(.pointer x.1)])) fun (r11_ : PA) =>
 M.eqPtr r11_ none fun (q12_ : Bool) =>
 go1_ (q12_, ()))

theorem e23 (X : XT) (L : LoopI) (x : (PA) × (ByteArray) × Unit) : evBody CC { call := X, loop := L } 23 (shsInj [(.cell .ptr), (.cell .string)] x) = f23 X L x := by kernel_rfl

/-- hayrick/path.Parent -/
def f24c0 (X : XT) (L : LoopI) (r2_ : (SL) × (Int) × Unit) (v7_ : Int) (r9_ : (SL) × (Int) × Unit) (r13_ : (Int) × (Int) × Unit) (v14_ : Bool) : M (Value) :=
 M.ite v14_
 (M.pure (.tuple ⟨[(.int .i64 0), (.string st0), (.int .i64 r13_.2.1)]⟩))
 (M.guard (inB v7_ r9_.1.2.1)
 (M.deref r9_.1.1 fun a15_ =>
 M.load (.cell (.int .i64)) 1 (a15_.add ((Int.toNat v7_) * 1)) fun (x16_ : Int) =>
 M.guard (inB v7_ r2_.1.2.1)
 (M.deref r2_.1.1 fun a17_ =>
 M.load (.cell .string) 1 (a17_.add ((Int.toNat v7_) * 1)) fun (x18_ : ByteArray) =>
 M.load (.cell .string) 1 (a17_.add ((Int.toNat v7_) * 1)) fun (x19_ : ByteArray) => cond (veqv (.string x19_) (.string x18_)) (M.pure (.tuple ⟨[(.int .i64 x16_), (.string x18_), (.int .i64 0)]⟩)) M.stuck)))
def f24c1 (X : XT) (L : LoopI) (x : (PA) × (ByteArray) × Unit) (r2_ : (SL) × (Int) × Unit) (v7_ : Int) (v8_ : Nat) : M (Value) :=
 M.callS (.tuple [(.cell .slice), (.cell (.int .i64))]) (X (.call 22 [(.pointer x.1), (.slice (r2_.1.1.map (·.add (0 * 1))) (v8_ - 0) (r2_.1.2.2 - 0))])) fun (r9_ : (SL) × (Int) × Unit) =>
 M.ite (!(eqB r9_.2.1 0))
 (M.pure (.tuple ⟨[(.int .i64 0), (.string st0), (.int .i64 r9_.2.1)]⟩))
 (M.guard (inB v7_ r9_.1.2.1)
 (M.deref r9_.1.1 fun a11_ =>
 M.load (.cell (.int .i64)) 1 (a11_.add ((Int.toNat v7_) * 1)) fun (x12_ : Int) =>
 M.callS (.tuple [(.cell (.int .i64)), (.cell (.int .i64))]) (X (.call 38 [(.pointer x.1), (.int .i64 x12_)])) fun (r13_ : (Int) × (Int) × Unit) =>
 f24c0 X L r2_ v7_ r9_ r13_ (!(eqB r13_.2.1 0))))
def f24c2 (X : XT) (L : LoopI) (x : (PA) × (ByteArray) × Unit) : M (Value) :=
 M.callS (.tuple [(.cell .slice), (.cell (.int .i64))]) (X (.call 6 [(.string x.2.1)])) fun (r2_ : (SL) × (Int) × Unit) =>
 M.join (fun (j3_ : (Int) × Unit) =>
 M.ite (!(eqB j3_.1 0))
 (M.pure (.tuple ⟨[(.int .i64 0), (.string st0), (.int .i64 j3_.1)]⟩))
 (let v7_ : Int := subW .i64 ((r2_.1.2.1 : Nat) : Int) 1
 M.guard (upB v7_ r2_.1.2.2)
 (f24c1 X L x r2_ v7_ (Int.toNat v7_)))) fun go4_ =>
 M.join (fun (j20_ : (Bool) × Unit) =>
 M.ite j20_.1
 (go4_ (30, ()))
 (go4_ (r2_.2.1, ()))) fun go21_ =>
 M.ite (eqB r2_.2.1 0)
 (go21_ ((eqB ((r2_.1.2.1 : Nat) : Int) 0), ()))
 (go21_ (false, ()))
def f24 (X : XT) (L : LoopI) (x : (PA) × (ByteArray) × Unit) : M Value :=
 M.join (fun (j0_ : (Bool) × Unit) =>
 M.ite j0_.1
 (M.pure (.tuple ⟨[(.int .i64 0), (.string st0), (.int .i64 2)]⟩))
 (f24c2 X L x)) fun go1_ =>
 M.eqPtr x.1 none fun (q25_ : Bool) =>
 M.ite q25_
 (go1_ (true, ()))
 (M.callS (.one (.cell .ptr)) (X (.call 36 [(.pointer x.1)])) fun (r26_ : PA) =>
 M.eqPtr r26_ none fun (q27_ : Bool) =>
 go1_ (q27_, ()))

theorem e24 (X : XT) (L : LoopI) (x : (PA) × (ByteArray) × Unit) : evBody CC { call := X, loop := L } 24 (shsInj [(.cell .ptr), (.cell .string)] x) = f24 X L x := by kernel_rfl

/-- hayrick/names.Whole -/
def f25c0 (X : XT) (L : LoopI) (x : (ByteArray) × Unit) (b0_ : Nat) : M (Value) :=
 M.bind (L (σ := Unit) (ρ := (Unit) ⊕ (((Bool) × Unit) ⊕ (Unit))) (fun s1_ =>
 M.next b0_
 (M.pure (.inr (.inl (())))) fun i2_ c3_ =>
 M.guard (upB i2_ x.1.size)
 (M.callS (.tuple [(.cell (.int .i32)), (.cell (.int .i64))]) (X (.call 39 [(.string (x.1.extract (Int.toNat i2_) x.1.size))])) fun (r6_ : (Int) × (Int) × Unit) =>
 M.join (fun (j7_ : (Bool) × Unit) =>
 M.ite j7_.1
 (M.pure (.inr (.inr (.inl (false, ())))))
 (M.pure (.inl (())))) fun go8_ =>
 M.ite (eqB c3_ 65533)
 (go8_ ((eqB r6_.2.1 1), ()))
 (go8_ (false, ())))) (())) <| M.sum (fun (j11_ : Unit) =>
 M.pure (.bool true)) (M.sum (fun (j12_ : (Bool) × Unit) =>
 M.pure (.bool j12_.1)) (fun _ => M.stuck))
def f25 (X : XT) (L : LoopI) (x : (ByteArray) × Unit) : M Value :=
 M.new (.iter x.1 0) fun b0_ =>
 f25c0 X L x b0_

theorem e25 (X : XT) (L : LoopI) (x : (ByteArray) × Unit) : evBody CC { call := X, loop := L } 25 (shsInj [(.cell .string)] x) = f25 X L x := by kernel_rfl

/-- internal/stringslite.HasPrefix -/
def f26 (X : XT) (L : LoopI) (x : (ByteArray) × (ByteArray) × Unit) : M Value :=
 M.join (fun (j0_ : (Bool) × Unit) =>
 M.pure (.bool j0_.1)) fun go1_ =>
 M.ite (leB ((x.2.1.size : Nat) : Int) ((x.1.size : Nat) : Int))
 (let v5_ : Int := ((x.2.1.size : Nat) : Int)
 M.guard (upB v5_ x.1.size)
 (go1_ ((seq (x.1.extract 0 (Int.toNat v5_)) x.2.1), ())))
 (go1_ (false, ()))

theorem e26 (X : XT) (L : LoopI) (x : (ByteArray) × (ByteArray) × Unit) : evBody CC { call := X, loop := L } 26 (shsInj [(.cell .string), (.cell .string)] x) = f26 X L x := by kernel_rfl

/-- slices.Index[[]string,string] -/
def f27c0 (X : XT) (L : LoopI) (x : (SL) × (ByteArray) × Unit) (v0_ : Int) : M (Value) :=
 M.bind (L (σ := (Int) × Unit) (ρ := (Unit) ⊕ (((Int) × Unit) ⊕ (Unit))) (fun s1_ =>
 M.ite (ltB s1_.1 v0_)
 (M.guard (inB s1_.1 x.1.2.1)
 (M.deref x.1.1 fun a3_ =>
 M.load (.cell .string) 1 (a3_.add ((Int.toNat s1_.1) * 1)) fun (x4_ : ByteArray) =>
 M.ite (seq x.2.1 x4_)
 (M.pure (.inr (.inr (.inl (s1_.1, ())))))
 (M.pure (.inl ((addW .i64 s1_.1 1), ())))))
 (M.pure (.inr (.inl (()))))) (0, ())) <| M.sum (fun (j7_ : Unit) =>
 M.pure (.int .i64 (-1))) (M.sum (fun (j8_ : (Int) × Unit) =>
 M.pure (.int .i64 j8_.1)) (fun _ => M.stuck))
def f27 (X : XT) (L : LoopI) (x : (SL) × (ByteArray) × Unit) : M Value :=
 f27c0 X L x ((x.1.2.1 : Nat) : Int)

theorem e27 (X : XT) (L : LoopI) (x : (SL) × (ByteArray) × Unit) : evBody CC { call := X, loop := L } 27 (shsInj [(.cell .slice), (.cell .string)] x) = f27 X L x := by kernel_rfl

/-- hayrick/hayrickref10.Whole -/
def f28c0 (X : XT) (L : LoopI) (x : (ByteArray) × Unit) : M (Value) :=
 M.bind (L (σ := (Int) × Unit) (ρ := (Unit) ⊕ (((Bool) × Unit) ⊕ (Unit))) (fun s0_ =>
 M.ite (ltB s0_.1 ((x.1.size : Nat) : Int))
 (M.guard (upB s0_.1 x.1.size)
 (M.callS (.tuple [(.cell (.int .i32)), (.cell (.int .i64)), (.cell .bool)]) (X (.call 40 [(.string (x.1.extract (Int.toNat s0_.1) x.1.size))])) fun (r5_ : (Int) × (Int) × (Bool) × Unit) =>
 M.ite r5_.2.2.1
 (M.pure (.inr (.inr (.inl (false, ())))))
 (M.pure (.inl ((addW .i64 s0_.1 r5_.2.1), ())))))
 (M.pure (.inr (.inl (()))))) (0, ())) <| M.sum (fun (j7_ : Unit) =>
 M.pure (.bool true)) (M.sum (fun (j8_ : (Bool) × Unit) =>
 M.pure (.bool j8_.1)) (fun _ => M.stuck))
def f28 (X : XT) (L : LoopI) (x : (ByteArray) × Unit) : M Value :=
 f28c0 X L x

theorem e28 (X : XT) (L : LoopI) (x : (ByteArray) × Unit) : evBody CC { call := X, loop := L } 28 (shsInj [(.cell .string)] x) = f28 X L x := by kernel_rfl

/-- (*strings.Builder).WriteString -/
def f29 (X : XT) (L : LoopI) (x : (PA) × (ByteArray) × Unit) : M Value :=
 M.callS (.tuple []) (X (.call 41 [(.pointer x.1)])) fun (r0_ : Unit) =>
 M.deref x.1 fun a1_ =>
 M.load (.cell .slice) 1 (a1_.add 1) fun (x2_ : SL) =>
 M.append 5 1 1 x2_.1 x2_.2.1 x2_.2.2 (.string x.2.1) fun a3_ n4_ c5_ =>
 M.deref x.1 fun a6_ =>
 M.store (a6_.add 1) [(.slice a3_ n4_ c5_)]
 (M.pure (.tuple ⟨[(.int .i64 ((x.2.1.size : Nat) : Int)), .nilIface]⟩))

theorem e29 (X : XT) (L : LoopI) (x : (PA) × (ByteArray) × Unit) : evBody CC { call := X, loop := L } 29 (shsInj [(.cell .ptr), (.cell .string)] x) = f29 X L x := by kernel_rfl

/-- (*strings.Builder).String -/
def f30 (X : XT) (L : LoopI) (x : (PA) × Unit) : M Value :=
 M.deref x.1 fun a0_ =>
 M.load (.cell .slice) 1 (a0_.add 1) fun (x1_ : SL) =>
 M.deref x.1 fun a2_ =>
 M.load (.cell .slice) 1 (a2_.add 1) fun (x3_ : SL) =>
 aBuiltin PP .unsafeSliceData #[61] [(.slice x1_.1 x1_.2.1 x1_.2.2)] fun (w5_ : Value) =>
 M.load (.cell .slice) 1 (a2_.add 1) fun (x6_ : SL) => cond (veqv (.slice x6_.1 x6_.2.1 x6_.2.2) (.slice x3_.1 x3_.2.1 x3_.2.2)) (aBuiltin PP .unsafeString #[89, 3] [w5_, (.int .i64 ((x3_.2.1 : Nat) : Int))] fun (w7_ : Value) =>
 M.pure w7_) M.stuck

theorem e30 (X : XT) (L : LoopI) (x : (PA) × Unit) : evBody CC { call := X, loop := L } 30 (shsInj [(.cell .ptr)] x) = f30 X L x := by kernel_rfl

/-- hayrick/hayricklaw18.Made -/
def f31c0 (X : XT) (L : LoopI) (r0_ : (PA) × (PA) × (PA) × (PA) × Unit) (r2_ : (PA) × (Int) × Unit) : M (Value) :=
 M.new (.cells (Row.ofList [(.pointer r0_.2.1), (.int .u32 0), (.int .u32 0), (.int .u32 0), (.int .u32 0), (.int .u32 0), (.int .u32 0), (.int .u32 0), (.int .u32 0), (.int .u32 0), (.int .u32 0), (.int .u32 0), (.int .u32 0), (.int .u32 0), (.int .u32 0), (.int .u32 0), (.int .u32 0), (.int .u32 0), (.int .u32 0), (.int .u32 0), (.int .u32 0), (.int .u32 0), (.int .u32 0), (.int .u32 0), (.int .u32 0), (.int .u32 0), (.int .u32 0), (.int .u32 0), (.int .u32 0), (.int .u32 0), (.int .u32 0), (.int .u32 0), (.int .u32 0), (.int .u32 0), (.int .u32 0), (.int .u32 0), (.int .u32 0), (.int .u32 0), (.int .u32 0), (.int .u32 0), (.int .u32 0), (.int .u32 0), (.int .u32 0), (.int .u32 0), (.int .u32 0), (.int .u32 0), (.int .u32 0), (.int .u32 0), (.int .u32 0), (.int .u32 0), (.int .u32 0), (.int .u32 0), (.int .u32 0), (.int .u32 0), (.int .u32 0), (.int .u32 0), (.int .u32 0), (.int .u32 0), (.int .u32 0), (.int .u32 0), (.int .u32 0), (.int .u32 0), (.int .u32 0), (.int .u32 0), (.int .u32 0)]) 97 false (0, 0) false) fun b4_ =>
 M.pure (.tuple ⟨[(.pointer r2_.1), (.pointer (some (Addr.mk b4_ 0 none))), (.pointer r0_.2.2.1), (.pointer r0_.2.1)]⟩)
def f31c1 (X : XT) (L : LoopI) (r0_ : (PA) × (PA) × (PA) × (PA) × Unit) : M (Value) :=
 M.callS (.tuple [(.cell .ptr), (.cell (.int .i64))]) (X (.call 43 [(.pointer r0_.1), (.agg ⟨[(.int .u32 0), (.int .u32 0), (.int .u32 0), (.int .u32 0), (.int .u32 0), (.int .u32 0), (.int .u32 0), (.int .u32 0), (.int .u32 0), (.int .u32 0), (.int .u32 0), (.int .u32 0), (.int .u32 0), (.int .u32 0), (.int .u32 0), (.int .u32 0), (.int .u32 0), (.int .u32 0), (.int .u32 0), (.int .u32 0), (.int .u32 0), (.int .u32 0), (.int .u32 0), (.int .u32 0), (.int .u32 0), (.int .u32 0), (.int .u32 0), (.int .u32 0), (.int .u32 0), (.int .u32 0), (.int .u32 0), (.int .u32 0), (.int .u32 0), (.int .u32 0), (.int .u32 0), (.int .u32 0), (.int .u32 0), (.int .u32 0), (.int .u32 0), (.int .u32 0), (.int .u32 0), (.int .u32 0), (.int .u32 0), (.int .u32 0), (.int .u32 0), (.int .u32 0), (.int .u32 0), (.int .u32 0), (.int .u32 0), (.int .u32 0), (.int .u32 0), (.int .u32 0), (.int .u32 0), (.int .u32 0), (.int .u32 0), (.int .u32 0), (.int .u32 0), (.int .u32 0), (.int .u32 0), (.int .u32 0), (.int .u32 0), (.int .u32 0), (.int .u32 0), (.int .u32 0)]⟩)])) fun (r2_ : (PA) × (Int) × Unit) =>
 M.ite (!(eqB r2_.2.1 0))
 (M.pure (.tuple ⟨[(.pointer none), (.pointer none), (.pointer none), (.pointer none)]⟩))
 (f31c0 X L r0_ r2_)
def f31 (X : XT) (L : LoopI) (x : (Int) × (Int) × (Int) × Unit) : M Value :=
 M.callS (.tuple [(.cell .ptr), (.cell .ptr), (.cell .ptr), (.cell .ptr)]) (X (.call 42 [(.int .i64 x.1), (.int .i64 x.2.1), (.int .i64 x.2.2.1)])) fun (r0_ : (PA) × (PA) × (PA) × (PA) × Unit) =>
 M.eqPtr r0_.1 none fun (q1_ : Bool) =>
 M.ite q1_
 (M.pure (.tuple ⟨[(.pointer none), (.pointer none), (.pointer none), (.pointer none)]⟩))
 (f31c1 X L r0_)

theorem e31 (X : XT) (L : LoopI) (x : (Int) × (Int) × (Int) × Unit) : evBody CC { call := X, loop := L } 31 (shsInj [(.cell (.int .i64)), (.cell (.int .i64)), (.cell (.int .i64))] x) = f31 X L x := by kernel_rfl

/-- hayrick/files.Put -/
def f32c0 (X : XT) (L : LoopI) (x : (PA) × (Int × Int × Int × Int × Int × Int × Int × Int × Int × Int × Int × Unit) × (SL) × (Bool) × Unit) (s11_ : (SL) × (Int) × Unit) (b13_ : Nat) (x17_ : Int) : M (((SL) × (Int) × Unit) ⊕ (((SL) × Unit) ⊕ (((Int) × Unit) ⊕ (Unit)))) :=
 M.callS (.tuple [(.cell (.int .u32)), (.cell (.int .i64))]) (X (.call 47 [(.pointer x.1), (.int .i64 x17_), (.int .i64 s11_.2.1), (.slice (some (Addr.mk b13_ 0 none)) (Int.toNat 112) (Int.toNat 112)), (.bool false)])) fun (r18_ : (Int) × (Int) × Unit) =>
 M.ite (!(eqB r18_.2.1 0))
 (M.pure (.inr (.inr (.inl (r18_.2.1, ())))))
 (M.new (.cells (Row.ofList [(.int .u32 r18_.1)]) 73 false (0, 0) false) fun b20_ =>
 M.append 73 1 4 s11_.1.1 s11_.1.2.1 s11_.1.2.2 (.slice (some (Addr.mk b20_ 0 none)) 1 1) fun a21_ n22_ c23_ =>
 M.pure (.inl ((a21_, n22_, c23_), (addW .i64 s11_.2.1 1), ())))
def f32c1 (X : XT) (L : LoopI) (x : (PA) × (Int × Int × Int × Int × Int × Int × Int × Int × Int × Int × Int × Unit) × (SL) × (Bool) × Unit) (b0_ : Nat) (s11_ : (SL) × (Int) × Unit) : M (((SL) × (Int) × Unit) ⊕ (((SL) × Unit) ⊕ (((Int) × Unit) ⊕ (Unit)))) :=
 M.guard (decide (0 ≤ 112) && decide (112 ≤ 112) && decide ((1 : Int) * 112 ≤ 2 ^ 48))
 (M.new (.cells (Row.rep [(.int .u8 0)] (Int.toNat 112)) 5 false (0, 0) false) fun b13_ =>
 let v14_ : Int := mulW .i64 s11_.2.1 112
 M.guard (upB v14_ x.2.2.1.2.1)
 (let v15_ : Nat := (Int.toNat v14_)
 M.copy 1 (some (Addr.mk b13_ 0 none)) (Int.toNat 112) (.slice (x.2.2.1.1.map (·.add (v15_ * 1))) (x.2.2.1.2.1 - v15_) (x.2.2.1.2.2 - v15_)) fun m16_ =>
 M.load (.cell (.int .i64)) 1 ((Addr.mk b0_ 0 none).add 0) fun (x17_ : Int) =>
 f32c0 X L x s11_ b13_ x17_))
def f32c2 (X : XT) (L : LoopI) (x : (PA) × (Int × Int × Int × Int × Int × Int × Int × Int × Int × Int × Int × Unit) × (SL) × (Bool) × Unit) (j25_ : (SL) × Unit) (x26_ : Int × Int × Int × Int × Int × Int × Int × Int × Int × Int × Int × Unit) : M (Value) :=
 M.callS (.one (.cell (.int .i64))) (X (.call 48 [(.pointer x.1), (.agg ⟨[(.int .i64 x26_.1), (.int .i64 x26_.2.1), (.int .i64 x26_.2.2.1), (.int .i64 x26_.2.2.2.1), (.int .u32 x26_.2.2.2.2.1), (.int .u32 x26_.2.2.2.2.2.1), (.int .u32 x26_.2.2.2.2.2.2.1), (.int .u32 x26_.2.2.2.2.2.2.2.1), (.int .u32 x26_.2.2.2.2.2.2.2.2.1), (.int .u32 x26_.2.2.2.2.2.2.2.2.2.1), (.int .u32 x26_.2.2.2.2.2.2.2.2.2.2.1)]⟩), (.slice j25_.1.1 j25_.1.2.1 j25_.1.2.2), (.bool x.2.2.2.1)])) fun (r27_ : Int) =>
 M.pure (.int .i64 r27_)
def f32c3 (X : XT) (L : LoopI) (x : (PA) × (Int × Int × Int × Int × Int × Int × Int × Int × Int × Int × Int × Unit) × (SL) × (Bool) × Unit) (b0_ : Nat) (r10_ : Int) : M (Value) :=
 M.bind (L (σ := (SL) × (Int) × Unit) (ρ := ((SL) × Unit) ⊕ (((Int) × Unit) ⊕ (Unit))) (fun s11_ =>
 M.ite (ltB s11_.2.1 r10_)
 (f32c1 X L x b0_ s11_)
 (M.pure (.inr (.inl (s11_.1, ()))))) ((none, 0, 0), 0, ())) <| M.sum (fun (j25_ : (SL) × Unit) =>
 M.load (.agg [(.int .i64), (.int .i64), (.int .i64), (.int .i64), (.int .u32), (.int .u32), (.int .u32), (.int .u32), (.int .u32), (.int .u32), (.int .u32)]) 11 (Addr.mk b0_ 0 none) fun (x26_ : Int × Int × Int × Int × Int × Int × Int × Int × Int × Int × Int × Unit) =>
 f32c2 X L x j25_ x26_) (M.sum (fun (j28_ : (Int) × Unit) =>
 M.pure (.int .i64 j28_.1)) (fun _ => M.stuck))
def f32c4 (X : XT) (L : LoopI) (x : (PA) × (Int × Int × Int × Int × Int × Int × Int × Int × Int × Int × Int × Unit) × (SL) × (Bool) × Unit) (b0_ : Nat) (x6_ : Int × Int × Int × Int × Int × Int × Int × Int × Int × Int × Int × Unit) : M (Value) :=
 M.callS (.one (.cell .bool)) (X (.call 45 [(.agg ⟨[(.int .i64 x6_.1), (.int .i64 x6_.2.1), (.int .i64 x6_.2.2.1), (.int .i64 x6_.2.2.2.1), (.int .u32 x6_.2.2.2.2.1), (.int .u32 x6_.2.2.2.2.2.1), (.int .u32 x6_.2.2.2.2.2.2.1), (.int .u32 x6_.2.2.2.2.2.2.2.1), (.int .u32 x6_.2.2.2.2.2.2.2.2.1), (.int .u32 x6_.2.2.2.2.2.2.2.2.2.1), (.int .u32 x6_.2.2.2.2.2.2.2.2.2.2.1)]⟩)])) fun (r7_ : Bool) =>
 M.ite (!r7_)
 (M.pure (.int .i64 1))
 (M.callS (.one (.cell (.int .i64))) (X (.call 46 [(.int .i64 ((x.2.2.1.2.1 : Nat) : Int))])) fun (r10_ : Int) =>
 f32c3 X L x b0_ r10_)
def f32c5 (X : XT) (L : LoopI) (x : (PA) × (Int × Int × Int × Int × Int × Int × Int × Int × Int × Int × Int × Unit) × (SL) × (Bool) × Unit) (b0_ : Nat) (r5_ : Int × Int × Int × Int × Int × Int × Int × Int × Int × Int × Int × Unit) : M (Value) :=
 M.store (Addr.mk b0_ 0 none) [(.int .i64 r5_.1), (.int .i64 r5_.2.1), (.int .i64 r5_.2.2.1), (.int .i64 r5_.2.2.2.1), (.int .u32 r5_.2.2.2.2.1), (.int .u32 r5_.2.2.2.2.2.1), (.int .u32 r5_.2.2.2.2.2.2.1), (.int .u32 r5_.2.2.2.2.2.2.2.1), (.int .u32 r5_.2.2.2.2.2.2.2.2.1), (.int .u32 r5_.2.2.2.2.2.2.2.2.2.1), (.int .u32 r5_.2.2.2.2.2.2.2.2.2.2.1)]
 (M.load (.agg [(.int .i64), (.int .i64), (.int .i64), (.int .i64), (.int .u32), (.int .u32), (.int .u32), (.int .u32), (.int .u32), (.int .u32), (.int .u32)]) 11 (Addr.mk b0_ 0 none) fun (x6_ : Int × Int × Int × Int × Int × Int × Int × Int × Int × Int × Int × Unit) =>
 f32c4 X L x b0_ x6_)
def f32c6 (X : XT) (L : LoopI) (x : (PA) × (Int × Int × Int × Int × Int × Int × Int × Int × Int × Int × Int × Unit) × (SL) × (Bool) × Unit) (b0_ : Nat) (x3_ : Int × Int × Int × Int × Int × Int × Int × Int × Int × Int × Int × Unit) (v4_ : Int) : M (Value) :=
 M.callS (.one (.agg [(.int .i64), (.int .i64), (.int .i64), (.int .i64), (.int .u32), (.int .u32), (.int .u32), (.int .u32), (.int .u32), (.int .u32), (.int .u32)])) (X (.call 44 [(.agg ⟨[(.int .i64 x3_.1), (.int .i64 x3_.2.1), (.int .i64 x3_.2.2.1), (.int .i64 x3_.2.2.2.1), (.int .u32 x3_.2.2.2.2.1), (.int .u32 x3_.2.2.2.2.2.1), (.int .u32 x3_.2.2.2.2.2.2.1), (.int .u32 x3_.2.2.2.2.2.2.2.1), (.int .u32 x3_.2.2.2.2.2.2.2.2.1), (.int .u32 x3_.2.2.2.2.2.2.2.2.2.1), (.int .u32 x3_.2.2.2.2.2.2.2.2.2.2.1)]⟩), (.int .i64 v4_)])) fun (r5_ : Int × Int × Int × Int × Int × Int × Int × Int × Int × Int × Int × Unit) =>
 f32c5 X L x b0_ r5_
def f32c7 (X : XT) (L : LoopI) (x : (PA) × (Int × Int × Int × Int × Int × Int × Int × Int × Int × Int × Int × Unit) × (SL) × (Bool) × Unit) : M (Value) :=
 M.new (.cells (Row.ofList [(.int .i64 x.2.1.1), (.int .i64 x.2.1.2.1), (.int .i64 x.2.1.2.2.1), (.int .i64 x.2.1.2.2.2.1), (.int .u32 x.2.1.2.2.2.2.1), (.int .u32 x.2.1.2.2.2.2.2.1), (.int .u32 x.2.1.2.2.2.2.2.2.1), (.int .u32 x.2.1.2.2.2.2.2.2.2.1), (.int .u32 x.2.1.2.2.2.2.2.2.2.2.1), (.int .u32 x.2.1.2.2.2.2.2.2.2.2.2.1), (.int .u32 x.2.1.2.2.2.2.2.2.2.2.2.2.1)]) 76 false (0, 0) false) fun b0_ =>
 M.callS (.one (.cell .ptr)) (X (.call 36 [(.pointer x.1)])) fun (r1_ : PA) =>
 M.eqPtr r1_ none fun (q2_ : Bool) =>
 M.ite q2_
 (M.pure (.int .i64 2))
 (M.load (.agg [(.int .i64), (.int .i64), (.int .i64), (.int .i64), (.int .u32), (.int .u32), (.int .u32), (.int .u32), (.int .u32), (.int .u32), (.int .u32)]) 11 (Addr.mk b0_ 0 none) fun (x3_ : Int × Int × Int × Int × Int × Int × Int × Int × Int × Int × Int × Unit) =>
 f32c6 X L x b0_ x3_ ((x.2.2.1.2.1 : Nat) : Int))
def f32 (X : XT) (L : LoopI) (x : (PA) × (Int × Int × Int × Int × Int × Int × Int × Int × Int × Int × Int × Unit) × (SL) × (Bool) × Unit) : M Value :=
 f32c7 X L x

theorem e32 (X : XT) (L : LoopI) (x : (PA) × (Int × Int × Int × Int × Int × Int × Int × Int × Int × Int × Int × Unit) × (SL) × (Bool) × Unit) : evBody CC { call := X, loop := L } 32 (shsInj [(.cell .ptr), (.agg [(.int .i64), (.int .i64), (.int .i64), (.int .i64), (.int .u32), (.int .u32), (.int .u32), (.int .u32), (.int .u32), (.int .u32), (.int .u32)]), (.cell .slice), (.cell .bool)] x) = f32 X L x := by kernel_rfl

/-- hayrick/hayrickref19.Put -/
def f33c0 (X : XT) (L : LoopI) (x : (PA) × (Int × Int × Int × Int × Int × Int × Int × Int × Int × Int × Int × Unit) × (SL) × (Bool) × Unit) (s7_ : (SL) × (Int) × Unit) (b10_ : Nat) (s11_ : (Int) × Unit) : M (((Int) × Unit) ⊕ ((Unit) ⊕ (Unit))) :=
 M.join (fun (j12_ : (Bool) × Unit) =>
 M.ite j12_.1
 (let v14_ : Int := addW .i64 s7_.2.1 s11_.1
 M.guard (inB v14_ x.2.2.1.2.1)
 (M.deref x.2.2.1.1 fun a15_ =>
 M.load (.cell (.int .u8)) 1 (a15_.add ((Int.toNat v14_) * 1)) fun (x16_ : Int) =>
 M.guard (inB s11_.1 (Int.toNat 112))
 (M.store ((Addr.mk b10_ 0 none).add ((Int.toNat s11_.1) * 1)) [(.int .u8 x16_)]
 (M.pure (.inl ((addW .i64 s11_.1 1), ()))))))
 (M.pure (.inr (.inl (()))))) fun go13_ =>
 M.ite (ltB s11_.1 112)
 (go13_ ((ltB (addW .i64 s7_.2.1 s11_.1) ((x.2.2.1.2.1 : Nat) : Int)), ()))
 (go13_ (false, ()))
def f33c1 (X : XT) (L : LoopI) (x : (PA) × (Int × Int × Int × Int × Int × Int × Int × Int × Int × Int × Int × Unit) × (SL) × (Bool) × Unit) (s7_ : (SL) × (Int) × Unit) (b10_ : Nat) (x23_ : Int) (v24_ : Int) : M (((SL) × (Int) × Unit) ⊕ (((SL) × Unit) ⊕ (((Int) × Unit) ⊕ (Unit)))) :=
 M.callS (.tuple [(.cell (.int .u32)), (.cell (.int .i64))]) (X (.call 50 [(.pointer x.1), (.int .i64 x23_), (.int .i64 v24_), (.slice (some (Addr.mk b10_ 0 none)) (Int.toNat 112) (Int.toNat 112)), (.bool false)])) fun (r25_ : (Int) × (Int) × Unit) =>
 M.ite (!(eqB r25_.2.1 0))
 (M.pure (.inr (.inr (.inl (r25_.2.1, ())))))
 (M.new (.cells (Row.ofList [(.int .u32 r25_.1)]) 73 false (0, 0) false) fun b27_ =>
 M.append 73 1 4 s7_.1.1 s7_.1.2.1 s7_.1.2.2 (.slice (some (Addr.mk b27_ 0 none)) 1 1) fun a28_ n29_ c30_ =>
 M.pure (.inl ((a28_, n29_, c30_), (addW .i64 s7_.2.1 112), ())))
def f33c2 (X : XT) (L : LoopI) (x : (PA) × (Int × Int × Int × Int × Int × Int × Int × Int × Int × Int × Int × Unit) × (SL) × (Bool) × Unit) (b0_ : Nat) (s7_ : (SL) × (Int) × Unit) : M (((SL) × (Int) × Unit) ⊕ (((SL) × Unit) ⊕ (((Int) × Unit) ⊕ (Unit)))) :=
 M.guard (decide (0 ≤ 112) && decide (112 ≤ 112) && decide ((1 : Int) * 112 ≤ 2 ^ 48))
 (M.new (.cells (Row.rep [(.int .u8 0)] (Int.toNat 112)) 5 false (0, 0) false) fun b10_ =>
 M.bind (L (σ := (Int) × Unit) (ρ := (Unit) ⊕ (Unit)) (fun s11_ =>
 f33c0 X L x s7_ b10_ s11_) (0, ())) <| M.sum (fun (j22_ : Unit) =>
 M.load (.cell (.int .i64)) 1 ((Addr.mk b0_ 0 none).add 0) fun (x23_ : Int) =>
 M.guard (!(decide (112 = 0)))
 (f33c1 X L x s7_ b10_ x23_ (IntKind.i64.wrap ((s7_.2.1 : Int).tdiv 112)))) (fun _ => M.stuck))
def f33c3 (X : XT) (L : LoopI) (x : (PA) × (Int × Int × Int × Int × Int × Int × Int × Int × Int × Int × Int × Unit) × (SL) × (Bool) × Unit) (j32_ : (SL) × Unit) (x33_ : Int × Int × Int × Int × Int × Int × Int × Int × Int × Int × Int × Unit) (v34_ : Int) : M (Value) :=
 M.callS (.one (.cell (.int .i64))) (X (.call 51 [(.pointer x.1), (.agg ⟨[(.int .i64 x33_.1), (.int .i64 x33_.2.1), (.int .i64 x33_.2.2.1), (.int .i64 x33_.2.2.2.1), (.int .u32 x33_.2.2.2.2.1), (.int .u32 x33_.2.2.2.2.2.1), (.int .u32 x33_.2.2.2.2.2.2.1), (.int .u32 x33_.2.2.2.2.2.2.2.1), (.int .u32 x33_.2.2.2.2.2.2.2.2.1), (.int .u32 x33_.2.2.2.2.2.2.2.2.2.1), (.int .u32 x33_.2.2.2.2.2.2.2.2.2.2.1)]⟩), (.int .i64 v34_), (.slice j32_.1.1 j32_.1.2.1 j32_.1.2.2), (.bool x.2.2.2.1)])) fun (r35_ : Int) =>
 M.pure (.int .i64 r35_)
def f33c4 (X : XT) (L : LoopI) (x : (PA) × (Int × Int × Int × Int × Int × Int × Int × Int × Int × Int × Int × Unit) × (SL) × (Bool) × Unit) (b0_ : Nat) : M (Value) :=
 M.bind (L (σ := (SL) × (Int) × Unit) (ρ := ((SL) × Unit) ⊕ (((Int) × Unit) ⊕ (Unit))) (fun s7_ =>
 M.ite (ltB s7_.2.1 ((x.2.2.1.2.1 : Nat) : Int))
 (f33c2 X L x b0_ s7_)
 (M.pure (.inr (.inl (s7_.1, ()))))) ((none, 0, 0), 0, ())) <| M.sum (fun (j32_ : (SL) × Unit) =>
 M.load (.agg [(.int .i64), (.int .i64), (.int .i64), (.int .i64), (.int .u32), (.int .u32), (.int .u32), (.int .u32), (.int .u32), (.int .u32), (.int .u32)]) 11 (Addr.mk b0_ 0 none) fun (x33_ : Int × Int × Int × Int × Int × Int × Int × Int × Int × Int × Int × Unit) =>
 f33c3 X L x j32_ x33_ ((x.2.2.1.2.1 : Nat) : Int)) (M.sum (fun (j36_ : (Int) × Unit) =>
 M.pure (.int .i64 j36_.1)) (fun _ => M.stuck))
def f33c5 (X : XT) (L : LoopI) (x : (PA) × (Int × Int × Int × Int × Int × Int × Int × Int × Int × Int × Int × Unit) × (SL) × (Bool) × Unit) (b0_ : Nat) : M (Value) :=
 M.load (.cell (.int .i64)) 1 ((Addr.mk b0_ 0 none).add 0) fun (x1_ : Int) =>
 M.load (.cell (.int .i64)) 1 ((Addr.mk b0_ 0 none).add 1) fun (x2_ : Int) =>
 M.load (.cell (.int .i64)) 1 ((Addr.mk b0_ 0 none).add 3) fun (x4_ : Int) =>
 M.callS (.one (.cell .bool)) (X (.call 49 [(.agg ⟨[(.int .i64 x1_), (.int .i64 x2_), (.int .i64 ((x.2.2.1.2.1 : Nat) : Int)), (.int .i64 x4_), (.int .u32 0), (.int .u32 0), (.int .u32 0), (.int .u32 0), (.int .u32 0), (.int .u32 0), (.int .u32 0)]⟩)])) fun (r5_ : Bool) =>
 M.ite (!r5_)
 (M.pure (.int .i64 1))
 (f33c4 X L x b0_)
def f33 (X : XT) (L : LoopI) (x : (PA) × (Int × Int × Int × Int × Int × Int × Int × Int × Int × Int × Int × Unit) × (SL) × (Bool) × Unit) : M Value :=
 M.new (.cells (Row.ofList [(.int .i64 x.2.1.1), (.int .i64 x.2.1.2.1), (.int .i64 x.2.1.2.2.1), (.int .i64 x.2.1.2.2.2.1), (.int .u32 x.2.1.2.2.2.2.1), (.int .u32 x.2.1.2.2.2.2.2.1), (.int .u32 x.2.1.2.2.2.2.2.2.1), (.int .u32 x.2.1.2.2.2.2.2.2.2.1), (.int .u32 x.2.1.2.2.2.2.2.2.2.2.1), (.int .u32 x.2.1.2.2.2.2.2.2.2.2.2.1), (.int .u32 x.2.1.2.2.2.2.2.2.2.2.2.2.1)]) 76 false (0, 0) false) fun b0_ =>
 f33c5 X L x b0_

theorem e33 (X : XT) (L : LoopI) (x : (PA) × (Int × Int × Int × Int × Int × Int × Int × Int × Int × Int × Int × Unit) × (SL) × (Bool) × Unit) : evBody CC { call := X, loop := L } 33 (shsInj [(.cell .ptr), (.agg [(.int .i64), (.int .i64), (.int .i64), (.int .i64), (.int .u32), (.int .u32), (.int .u32), (.int .u32), (.int .u32), (.int .u32), (.int .u32)]), (.cell .slice), (.cell .bool)] x) = f33 X L x := by kernel_rfl

/-- hayrick/dirs.Save -/
def f34c0 (X : XT) (L : LoopI) (x : (PA) × (Int) × (SL) × (Bool) × Unit) : M (Value) :=
 M.callS (.tuple [(.cell .slice), (.cell (.int .i64))]) (X (.call 52 [(.slice x.2.2.1.1 x.2.2.1.2.1 x.2.2.1.2.2)])) fun (r2_ : (SL) × (Int) × Unit) =>
 M.ite (!(eqB r2_.2.1 0))
 (M.pure (.int .i64 r2_.2.1))
 (M.callS (.one (.cell (.int .i64))) (X (.call 32 [(.pointer x.1), (.agg ⟨[(.int .i64 x.2.1), (.int .i64 2), (.int .i64 0), (.int .i64 1), (.int .u32 0), (.int .u32 0), (.int .u32 0), (.int .u32 0), (.int .u32 0), (.int .u32 0), (.int .u32 0)]⟩), (.slice r2_.1.1 r2_.1.2.1 r2_.1.2.2), (.bool x.2.2.2.1)])) fun (r4_ : Int) =>
 M.pure (.int .i64 r4_))
def f34 (X : XT) (L : LoopI) (x : (PA) × (Int) × (SL) × (Bool) × Unit) : M Value :=
 M.join (fun (j0_ : (Bool) × Unit) =>
 M.ite j0_.1
 (M.pure (.int .i64 2))
 (f34c0 X L x)) fun go1_ =>
 M.eqPtr x.1 none fun (q5_ : Bool) =>
 M.ite q5_
 (go1_ (true, ()))
 (M.callS (.one (.cell .ptr)) (X (.call 36 [(.pointer x.1)])) fun (r6_ : PA) =>
 M.eqPtr r6_ none fun (q7_ : Bool) =>
 go1_ (q7_, ()))

theorem e34 (X : XT) (L : LoopI) (x : (PA) × (Int) × (SL) × (Bool) × Unit) : evBody CC { call := X, loop := L } 34 (shsInj [(.cell .ptr), (.cell (.int .i64)), (.cell .slice), (.cell .bool)] x) = f34 X L x := by kernel_rfl

/-- hayrick/hayrickref20.Save -/
def f35c0 (X : XT) (L : LoopI) (x : (PA) × (Int) × (SL) × (Bool) × Unit) : M (Value) :=
 M.callS (.tuple [(.cell .slice), (.cell (.int .i64))]) (X (.call 53 [(.slice x.2.2.1.1 x.2.2.1.2.1 x.2.2.1.2.2)])) fun (r0_ : (SL) × (Int) × Unit) =>
 M.ite (!(eqB r0_.2.1 0))
 (M.pure (.int .i64 r0_.2.1))
 (M.callS (.one (.cell (.int .i64))) (X (.call 33 [(.pointer x.1), (.agg ⟨[(.int .i64 x.2.1), (.int .i64 2), (.int .i64 0), (.int .i64 1), (.int .u32 0), (.int .u32 0), (.int .u32 0), (.int .u32 0), (.int .u32 0), (.int .u32 0), (.int .u32 0)]⟩), (.slice r0_.1.1 r0_.1.2.1 r0_.1.2.2), (.bool x.2.2.2.1)])) fun (r2_ : Int) =>
 M.pure (.int .i64 r2_))
def f35 (X : XT) (L : LoopI) (x : (PA) × (Int) × (SL) × (Bool) × Unit) : M Value :=
 f35c0 X L x

theorem e35 (X : XT) (L : LoopI) (x : (PA) × (Int) × (SL) × (Bool) × Unit) : evBody CC { call := X, loop := L } 35 (shsInj [(.cell .ptr), (.cell (.int .i64)), (.cell .slice), (.cell .bool)] x) = f35 X L x := by kernel_rfl

/-- (*hayrick/store.Store).Log -/
def f36 (X : XT) (L : LoopI) (x : (PA) × Unit) : M Value :=
 M.eqPtr x.1 none fun (q0_ : Bool) =>
 M.ite q0_
 (M.pure (.pointer none))
 (M.deref x.1 fun a1_ =>
 M.load (.cell .ptr) 1 (a1_.add 0) fun (x2_ : PA) =>
 M.pure (.pointer x2_))

theorem e36 (X : XT) (L : LoopI) (x : (PA) × Unit) : evBody CC { call := X, loop := L } 36 (shsInj [(.cell .ptr)] x) = f36 X L x := by kernel_rfl

/-- hayrick/dirs.Lookup -/
def f37 (X : XT) (L : LoopI) (x : (PA) × (Int) × (ByteArray) × Unit) : M Value :=
 M.new (.cells (Row.ofList [(.string x.2.2.1)]) 9 false (0, 0) false) fun b0_ =>
 M.callS (.tuple [(.cell (.int .i64)), (.cell (.int .i64))]) (X (.call 54 [(.pointer x.1), (.int .i64 x.2.1), (.func (.func 55) ⟨[]⟩ ⟨[(.pointer (some (Addr.mk b0_ 0 none)))]⟩)])) fun (r1_ : (Int) × (Int) × Unit) =>
 M.pure (.tuple ⟨[(.int .i64 r1_.1), (.int .i64 r1_.2.1)]⟩)

theorem e37 (X : XT) (L : LoopI) (x : (PA) × (Int) × (ByteArray) × Unit) : evBody CC { call := X, loop := L } 37 (shsInj [(.cell .ptr), (.cell (.int .i64)), (.cell .string)] x) = f37 X L x := by kernel_rfl

/-- hayrick/dirs.Count -/
def f38c0 (X : XT) (L : LoopI) (r0_ : (Int × Int × Int × Int × Int × Int × Int × Int × Int × Int × Int × Unit) × (Int) × Unit) (b1_ : Nat) : M (Value) :=
 M.store (Addr.mk b1_ 0 none) [(.int .i64 r0_.1.1), (.int .i64 r0_.1.2.1), (.int .i64 r0_.1.2.2.1), (.int .i64 r0_.1.2.2.2.1), (.int .u32 r0_.1.2.2.2.2.1), (.int .u32 r0_.1.2.2.2.2.2.1), (.int .u32 r0_.1.2.2.2.2.2.2.1), (.int .u32 r0_.1.2.2.2.2.2.2.2.1), (.int .u32 r0_.1.2.2.2.2.2.2.2.2.1), (.int .u32 r0_.1.2.2.2.2.2.2.2.2.2.1), (.int .u32 r0_.1.2.2.2.2.2.2.2.2.2.2.1)]
 (M.ite (!(eqB r0_.2.1 0))
 (M.pure (.tuple ⟨[(.int .i64 0), (.int .i64 r0_.2.1)]⟩))
 (M.load (.cell (.int .i64)) 1 ((Addr.mk b1_ 0 none).add 2) fun (x3_ : Int) =>
 M.guard (!(decide (28 = 0)))
 (M.pure (.tuple ⟨[(.int .i64 (IntKind.i64.wrap ((x3_ : Int).tdiv 28))), (.int .i64 0)]⟩))))
def f38c1 (X : XT) (L : LoopI) (x : (PA) × (Int) × Unit) : M (Value) :=
 M.callS (.tuple [(.agg [(.int .i64), (.int .i64), (.int .i64), (.int .i64), (.int .u32), (.int .u32), (.int .u32), (.int .u32), (.int .u32), (.int .u32), (.int .u32)]), (.cell (.int .i64))]) (X (.call 57 [(.pointer x.1), (.int .i64 x.2.1)])) fun (r0_ : (Int × Int × Int × Int × Int × Int × Int × Int × Int × Int × Int × Unit) × (Int) × Unit) =>
 M.new (.cells (Row.ofList [(.int .i64 0), (.int .i64 0), (.int .i64 0), (.int .i64 0), (.int .u32 0), (.int .u32 0), (.int .u32 0), (.int .u32 0), (.int .u32 0), (.int .u32 0), (.int .u32 0)]) 76 false (0, 0) false) fun b1_ =>
 f38c0 X L r0_ b1_
def f38 (X : XT) (L : LoopI) (x : (PA) × (Int) × Unit) : M Value :=
 f38c1 X L x

theorem e38 (X : XT) (L : LoopI) (x : (PA) × (Int) × Unit) : evBody CC { call := X, loop := L } 38 (shsInj [(.cell .ptr), (.cell (.int .i64))] x) = f38 X L x := by kernel_rfl

/-- unicode/utf8.DecodeRuneInString -/
def f39 (X : XT) (L : LoopI) (x : (ByteArray) × Unit) : M Value :=
 M.join (fun (j0_ : (Bool) × Unit) =>
 M.ite j0_.1
 (M.guard (inB 0 x.1.size)
 (M.pure (.tuple ⟨[(.int .i32 (wrapW .i32 (byteAt x.1 0))), (.int .i64 1)]⟩)))
 (M.callS (.tuple [(.cell (.int .i32)), (.cell (.int .i64))]) (X (.call 58 [(.string x.1)])) fun (r4_ : (Int) × (Int) × Unit) =>
 M.pure (.tuple ⟨[(.int .i32 r4_.1), (.int .i64 r4_.2.1)]⟩))) fun go1_ =>
 M.ite (!(seq x.1 st0))
 (M.guard (inB 0 x.1.size)
 (go1_ ((ltB (byteAt x.1 0) 128), ())))
 (go1_ (false, ()))

theorem e39 (X : XT) (L : LoopI) (x : (ByteArray) × Unit) : evBody CC { call := X, loop := L } 39 (shsInj [(.cell .string)] x) = f39 X L x := by kernel_rfl

/-- hayrick/hayrickref10.Rune -/
def f40c0 (X : XT) (L : LoopI) (x : (ByteArray) × Unit) (j4_ : (Int) × (Int) × (Int) × Unit) (s8_ : (Int) × (Int) × Unit) : M (((Int) × (Int) × Unit) ⊕ (((Int) × Unit) ⊕ (((Int) × (Int) × (Bool) × Unit) ⊕ (Unit)))) :=
 M.ite (ltB s8_.2.1 j4_.1)
 (M.join (fun (j10_ : (Bool) × Unit) =>
 M.ite j10_.1
 (M.pure (.inr (.inr (.inl (65533, 1, true, ())))))
 (M.guard (inB s8_.2.1 x.1.size)
 (M.pure (.inl ((subW .i64 (addW .i64 (mulW .i64 64 s8_.1) (wrapW .i64 (byteAt x.1 s8_.2.1))) 128), (addW .i64 s8_.2.1 1), ()))))) fun go11_ =>
 M.guard (inB s8_.2.1 x.1.size)
 (M.ite (ltB (byteAt x.1 s8_.2.1) 128)
 (go11_ (true, ()))
 (M.guard (inB s8_.2.1 x.1.size)
 (go11_ ((ltB 191 (byteAt x.1 s8_.2.1)), ())))))
 (M.pure (.inr (.inl (s8_.1, ()))))
def f40c1 (X : XT) (L : LoopI) (x : (ByteArray) × Unit) (j4_ : (Int) × (Int) × (Int) × Unit) : M (Value) :=
 M.bind (L (σ := (Int) × (Int) × Unit) (ρ := ((Int) × Unit) ⊕ (((Int) × (Int) × (Bool) × Unit) ⊕ (Unit))) (fun s8_ =>
 f40c0 X L x j4_ s8_) (j4_.2.2.1, 1, ())) <| M.sum (fun (j22_ : (Int) × Unit) =>
 M.join (fun (j23_ : (Bool) × Unit) =>
 M.ite j23_.1
 (M.pure (.tuple ⟨[(.int .i32 65533), (.int .i64 1), (.bool true)]⟩))
 (M.pure (.tuple ⟨[(.int .i32 (wrapW .i32 j22_.1)), (.int .i64 j4_.1), (.bool false)]⟩))) fun go24_ =>
 M.ite (ltB j22_.1 j4_.2.1)
 (go24_ (true, ()))
 (M.ite (ltB 1114111 j22_.1)
 (go24_ (true, ()))
 (M.ite (leB 55296 j22_.1)
 (go24_ ((ltB j22_.1 57344), ()))
 (go24_ (false, ()))))) (M.sum (fun (j30_ : (Int) × (Int) × (Bool) × Unit) =>
 M.pure (.tuple ⟨[(.int .i32 j30_.1), (.int .i64 j30_.2.1), (.bool j30_.2.2.1)]⟩)) (fun _ => M.stuck))
def f40c2 (X : XT) (L : LoopI) (v1_ : Int) (go5_ : ((Int) × (Int) × (Int) × Unit) → M (Value)) : M (Value) :=
 M.join (fun (j34_ : (Bool) × Unit) =>
 M.ite j34_.1
 (go5_ (2, 128, (subW .i64 v1_ 192), ()))
 (M.join (fun (j37_ : (Bool) × Unit) =>
 M.ite j37_.1
 (go5_ (3, 2048, (subW .i64 v1_ 224), ()))
 (M.join (fun (j40_ : (Bool) × Unit) =>
 M.ite j40_.1
 (go5_ (4, 65536, (subW .i64 v1_ 240), ()))
 (go5_ (0, 0, 0, ()))) fun go41_ =>
 M.ite (leB 240 v1_)
 (go41_ ((ltB v1_ 248), ()))
 (go41_ (false, ())))) fun go38_ =>
 M.ite (leB 224 v1_)
 (go38_ ((ltB v1_ 240), ()))
 (go38_ (false, ())))) fun go35_ =>
 M.ite (leB 192 v1_)
 (go35_ ((ltB v1_ 224), ()))
 (go35_ (false, ()))
def f40 (X : XT) (L : LoopI) (x : (ByteArray) × Unit) : M Value :=
 M.guard (inB 0 x.1.size)
 (let v1_ : Int := wrapW .i64 (byteAt x.1 0)
 M.ite (ltB v1_ 128)
 (M.pure (.tuple ⟨[(.int .i32 (wrapW .i32 v1_)), (.int .i64 1), (.bool false)]⟩))
 (M.join (fun (j4_ : (Int) × (Int) × (Int) × Unit) =>
 M.join (fun (j6_ : (Bool) × Unit) =>
 M.ite j6_.1
 (M.pure (.tuple ⟨[(.int .i32 65533), (.int .i64 1), (.bool true)]⟩))
 (f40c1 X L x j4_)) fun go7_ =>
 M.ite (eqB j4_.1 0)
 (go7_ (true, ()))
 (go7_ ((ltB ((x.1.size : Nat) : Int) j4_.1), ()))) fun go5_ =>
 f40c2 X L v1_ go5_))

theorem e40 (X : XT) (L : LoopI) (x : (ByteArray) × Unit) : evBody CC { call := X, loop := L } 40 (shsInj [(.cell .string)] x) = f40 X L x := by kernel_rfl

/-- (*strings.Builder).copyCheck -/
def f41 (X : XT) (L : LoopI) (x : (PA) × Unit) : M Value :=
 M.deref x.1 fun a0_ =>
 M.load (.cell .ptr) 1 (a0_.add 0) fun (x1_ : PA) =>
 M.eqPtr x1_ none fun (q2_ : Bool) =>
 M.ite q2_
 (aConvert PP 60 120 (.pointer x.1) fun (w3_ : Value) =>
 aConvert PP 120 60 w3_ fun (w4_ : Value) =>
 M.deref x.1 fun a5_ =>
 M.store (a5_.add 0) [w4_]
 (M.pure (.tuple ⟨[]⟩)))
 (M.deref x.1 fun a6_ =>
 M.load (.cell .ptr) 1 (a6_.add 0) fun (x7_ : PA) =>
 M.eqPtr x7_ x.1 fun (q8_ : Bool) =>
 M.ite (!q8_)
 (M.stuck)
 (M.pure (.tuple ⟨[]⟩)))

theorem e41 (X : XT) (L : LoopI) (x : (PA) × Unit) : evBody CC { call := X, loop := L } 41 (shsInj [(.cell .ptr)] x) = f41 X L x := by kernel_rfl

/-- hayrick/hayricklaw17.Made -/
def f42c0 (X : XT) (L : LoopI) (x : (Int) × (Int) × (Int) × Unit) (r0_ : (PA) × (PA) × Unit) (r4_ : (PA) × (Int) × Unit) (b5_ : Nat) (r6_ : SL) : M (Value) :=
 M.callS (.tuple [(.cell .ptr), (.cell (.int .i64))]) (X (.call 63 [(.pointer r0_.2.1), (.int .u64 1), (.slice (some (Addr.mk b5_ 0 none)) (Int.toNat x.2.2.1) (Int.toNat x.2.2.1)), (.slice r6_.1 r6_.2.1 r6_.2.2)])) fun (r7_ : (PA) × (Int) × Unit) =>
 M.join (fun (j8_ : (Bool) × Unit) =>
 M.ite j8_.1
 (M.pure (.tuple ⟨[(.pointer none), (.pointer none), (.pointer none), (.pointer none)]⟩))
 (M.pure (.tuple ⟨[(.pointer r4_.1), (.pointer r7_.1), (.pointer r0_.1), (.pointer r0_.2.1)]⟩))) fun go9_ =>
 M.ite (!(eqB r4_.2.1 0))
 (go9_ (true, ()))
 (go9_ ((!(eqB r7_.2.1 0)), ()))
def f42c1 (X : XT) (L : LoopI) (x : (Int) × (Int) × (Int) × Unit) (r0_ : (PA) × (PA) × Unit) (b2_ : Nat) (r3_ : SL) : M (Value) :=
 M.callS (.tuple [(.cell .ptr), (.cell (.int .i64))]) (X (.call 61 [(.pointer r0_.1), (.int .u64 1), (.slice (some (Addr.mk b2_ 0 none)) (Int.toNat x.2.2.1) (Int.toNat x.2.2.1)), (.slice r3_.1 r3_.2.1 r3_.2.2)])) fun (r4_ : (PA) × (Int) × Unit) =>
 M.guard (decide (0 ≤ x.2.2.1) && decide (x.2.2.1 ≤ x.2.2.1) && decide ((8 : Int) * x.2.2.1 ≤ 2 ^ 48))
 (M.new (.cells (Row.rep [(.int .u64 0)] (Int.toNat x.2.2.1)) 126 false (0, 0) false) fun b5_ =>
 M.callS (.one (.cell .slice)) (X (.call 62 [(.int .i64 x.2.2.1)])) fun (r6_ : SL) =>
 f42c0 X L x r0_ r4_ b5_ r6_)
def f42c2 (X : XT) (L : LoopI) (x : (Int) × (Int) × (Int) × Unit) : M (Value) :=
 M.callS (.tuple [(.cell .ptr), (.cell .ptr)]) (X (.call 60 [(.int .i64 x.1), (.int .i64 x.2.1), (.int .i64 x.2.2.1), (.int .i64 0)])) fun (r0_ : (PA) × (PA) × Unit) =>
 M.eqPtr r0_.1 none fun (q1_ : Bool) =>
 M.ite q1_
 (M.pure (.tuple ⟨[(.pointer none), (.pointer none), (.pointer none), (.pointer none)]⟩))
 (M.guard (decide (0 ≤ x.2.2.1) && decide (x.2.2.1 ≤ x.2.2.1) && decide ((8 : Int) * x.2.2.1 ≤ 2 ^ 48))
 (M.new (.cells (Row.rep [(.int .u64 0)] (Int.toNat x.2.2.1)) 126 false (0, 0) false) fun b2_ =>
 M.callS (.one (.cell .slice)) (X (.call 62 [(.int .i64 x.2.2.1)])) fun (r3_ : SL) =>
 f42c1 X L x r0_ b2_ r3_))
def f42 (X : XT) (L : LoopI) (x : (Int) × (Int) × (Int) × Unit) : M Value :=
 f42c2 X L x

theorem e42 (X : XT) (L : LoopI) (x : (Int) × (Int) × (Int) × Unit) : evBody CC { call := X, loop := L } 42 (shsInj [(.cell (.int .i64)), (.cell (.int .i64)), (.cell (.int .i64))] x) = f42 X L x := by kernel_rfl

/-- hayrick/store.New -/
def f43c0 (X : XT) (L : LoopI) (x : (PA) × (List Value) × Unit) (b0_ : Nat) : M (Value) :=
 M.callS (.one (.cell .ptr)) (X (.call 64 [(.pointer x.1)])) fun (r1_ : PA) =>
 M.eqPtr r1_ none fun (q2_ : Bool) =>
 M.ite q2_
 (M.pure (.tuple ⟨[(.pointer none), (.int .i64 2)]⟩))
 (M.load .raw 64 (Addr.mk b0_ 0 none) fun (x3_ : List Value) =>
 M.need (fillA (fun i => ([(0, 1), (1, 64)] : List (Nat × Nat))[i]?) (zc 113) [(0, (.pointer x.1)), (1, (.agg ⟨x3_⟩))]) fun x4_ =>
 M.new (.cells (Row.ofList x4_) 113 false (0, 0) false) fun b5_ =>
 M.pure (.tuple ⟨[(.pointer (some (Addr.mk b5_ 0 none))), (.int .i64 0)]⟩))
def f43 (X : XT) (L : LoopI) (x : (PA) × (List Value) × Unit) : M Value :=
 M.new (.cells (Row.ofList x.2.1) 95 false (0, 0) false) fun b0_ =>
 f43c0 X L x b0_

theorem e43 (X : XT) (L : LoopI) (x : (PA) × (List Value) × Unit) : evBody CC { call := X, loop := L } 43 (shsInj [(.cell .ptr), .raw] x) = f43 X L x := by kernel_rfl

/-- hayrick/files.bare -/
def f44c0 (X : XT) (L : LoopI) (b1_ : Nat) : M (Value) :=
 M.load (.agg [(.int .i64), (.int .i64), (.int .i64), (.int .i64), (.int .u32), (.int .u32), (.int .u32), (.int .u32), (.int .u32), (.int .u32), (.int .u32)]) 11 (Addr.mk b1_ 0 none) fun (x5_ : Int × Int × Int × Int × Int × Int × Int × Int × Int × Int × Int × Unit) =>
 M.pure (.agg ⟨[(.int .i64 x5_.1), (.int .i64 x5_.2.1), (.int .i64 x5_.2.2.1), (.int .i64 x5_.2.2.2.1), (.int .u32 x5_.2.2.2.2.1), (.int .u32 x5_.2.2.2.2.2.1), (.int .u32 x5_.2.2.2.2.2.2.1), (.int .u32 x5_.2.2.2.2.2.2.2.1), (.int .u32 x5_.2.2.2.2.2.2.2.2.1), (.int .u32 x5_.2.2.2.2.2.2.2.2.2.1), (.int .u32 x5_.2.2.2.2.2.2.2.2.2.2.1)]⟩)
def f44c1 (X : XT) (L : LoopI) (x : (Int × Int × Int × Int × Int × Int × Int × Int × Int × Int × Int × Unit) × (Int) × Unit) (b0_ : Nat) : M (Value) :=
 M.new (.cells (Row.ofList [(.int .i64 0), (.int .i64 0), (.int .i64 0), (.int .i64 0), (.int .u32 0), (.int .u32 0), (.int .u32 0), (.int .u32 0), (.int .u32 0), (.int .u32 0), (.int .u32 0)]) 76 false (0, 0) false) fun b1_ =>
 M.load (.cell (.int .i64)) 1 ((Addr.mk b0_ 0 none).add 0) fun (x2_ : Int) =>
 M.load (.cell (.int .i64)) 1 ((Addr.mk b0_ 0 none).add 1) fun (x3_ : Int) =>
 M.load (.cell (.int .i64)) 1 ((Addr.mk b0_ 0 none).add 3) fun (x4_ : Int) =>
 M.store (Addr.mk b1_ 0 none) [(.int .i64 x2_), (.int .i64 x3_), (.int .i64 x.2.1), (.int .i64 x4_), (.int .u32 0), (.int .u32 0), (.int .u32 0), (.int .u32 0), (.int .u32 0), (.int .u32 0), (.int .u32 0)]
 (f44c0 X L b1_)
def f44 (X : XT) (L : LoopI) (x : (Int × Int × Int × Int × Int × Int × Int × Int × Int × Int × Int × Unit) × (Int) × Unit) : M Value :=
 M.new (.cells (Row.ofList [(.int .i64 x.1.1), (.int .i64 x.1.2.1), (.int .i64 x.1.2.2.1), (.int .i64 x.1.2.2.2.1), (.int .u32 x.1.2.2.2.2.1), (.int .u32 x.1.2.2.2.2.2.1), (.int .u32 x.1.2.2.2.2.2.2.1), (.int .u32 x.1.2.2.2.2.2.2.2.1), (.int .u32 x.1.2.2.2.2.2.2.2.2.1), (.int .u32 x.1.2.2.2.2.2.2.2.2.2.1), (.int .u32 x.1.2.2.2.2.2.2.2.2.2.2.1)]) 76 false (0, 0) false) fun b0_ =>
 f44c1 X L x b0_

theorem e44 (X : XT) (L : LoopI) (x : (Int × Int × Int × Int × Int × Int × Int × Int × Int × Int × Int × Unit) × (Int) × Unit) : evBody CC { call := X, loop := L } 44 (shsInj [(.agg [(.int .i64), (.int .i64), (.int .i64), (.int .i64), (.int .u32), (.int .u32), (.int .u32), (.int .u32), (.int .u32), (.int .u32), (.int .u32)]), (.cell (.int .i64))] x) = f44 X L x := by kernel_rfl

/-- hayrick/inode.May -/
def f45c0 (X : XT) (L : LoopI) (b0_ : Nat) (r7_ : Int) : M (Value) :=
 let v8_ : Int := (if 6 < r7_ then 6 else r7_)
 M.guard (upB v8_ 6)
 (let v9_ : Nat := (Int.toNat v8_)
 M.join (fun (j10_ : (Bool) × Unit) =>
 M.pure (.bool j10_.1)) fun go11_ =>
 M.callS (.one (.cell .bool)) (X (.call 65 [(.slice (some (((Addr.mk b0_ 0 none).add 4).add (v9_ * 1))) (6 - v9_) (6 - v9_)), (.func (.func 66) ⟨[]⟩ ⟨[]⟩)])) fun (r12_ : Bool) =>
 M.ite (!r12_)
 (M.ite (ltB 6 r7_)
 (go11_ (true, ()))
 (M.load (.cell (.int .u32)) 1 ((Addr.mk b0_ 0 none).add 10) fun (x15_ : Int) =>
 go11_ ((eqB x15_ 0), ())))
 (go11_ (false, ())))
def f45c1 (X : XT) (L : LoopI) (b0_ : Nat) (j2_ : (Int) × (Int) × Unit) (go5_ : ((Bool) × Unit) → M (Value)) (x19_ : Int) : M (Value) :=
 M.ite (ltB 64 x19_)
 (go5_ (true, ()))
 (M.load (.cell (.int .i64)) 1 ((Addr.mk b0_ 0 none).add 2) fun (x21_ : Int) =>
 M.ite (ltB x21_ 0)
 (go5_ (true, ()))
 (M.load (.cell (.int .i64)) 1 ((Addr.mk b0_ 0 none).add 2) fun (x23_ : Int) =>
 M.ite (ltB j2_.1 x23_)
 (go5_ (true, ()))
 (M.load (.cell (.int .i64)) 1 ((Addr.mk b0_ 0 none).add 3) fun (x25_ : Int) =>
 M.ite (ltB x25_ 1)
 (go5_ (true, ()))
 (M.load (.cell (.int .i64)) 1 ((Addr.mk b0_ 0 none).add 3) fun (x27_ : Int) =>
 go5_ ((ltB j2_.2.1 x27_), ())))))
def f45c2 (X : XT) (L : LoopI) (b0_ : Nat) (x1_ : Int) : M (Value) :=
 M.join (fun (j2_ : (Int) × (Int) × Unit) =>
 M.join (fun (j4_ : (Bool) × Unit) =>
 M.ite j4_.1
 (M.pure (.bool false))
 (M.load (.cell (.int .i64)) 1 ((Addr.mk b0_ 0 none).add 2) fun (x6_ : Int) =>
 M.callS (.one (.cell (.int .i64))) (X (.call 46 [(.int .i64 x6_)])) fun (r7_ : Int) =>
 f45c0 X L b0_ r7_)) fun go5_ =>
 M.load (.cell (.int .i64)) 1 ((Addr.mk b0_ 0 none).add 0) fun (x17_ : Int) =>
 M.ite (ltB x17_ 1)
 (go5_ (true, ()))
 (M.load (.cell (.int .i64)) 1 ((Addr.mk b0_ 0 none).add 0) fun (x19_ : Int) =>
 f45c1 X L b0_ j2_ go5_ x19_)) fun go3_ =>
 M.ite (eqB x1_ 1)
 (go3_ (3808, 64, ()))
 (M.ite (eqB x1_ 2)
 (M.load (.cell (.int .i64)) 1 ((Addr.mk b0_ 0 none).add 2) fun (x31_ : Int) =>
 M.guard (!(decide (28 = 0)))
 (M.ite (!(eqB ((x31_ : Int).tmod 28) 0))
 (M.pure (.bool false))
 (go3_ (1792, 1, ()))))
 (M.pure (.bool false)))
def f45 (X : XT) (L : LoopI) (x : (Int × Int × Int × Int × Int × Int × Int × Int × Int × Int × Int × Unit) × Unit) : M Value :=
 M.new (.cells (Row.ofList [(.int .i64 x.1.1), (.int .i64 x.1.2.1), (.int .i64 x.1.2.2.1), (.int .i64 x.1.2.2.2.1), (.int .u32 x.1.2.2.2.2.1), (.int .u32 x.1.2.2.2.2.2.1), (.int .u32 x.1.2.2.2.2.2.2.1), (.int .u32 x.1.2.2.2.2.2.2.2.1), (.int .u32 x.1.2.2.2.2.2.2.2.2.1), (.int .u32 x.1.2.2.2.2.2.2.2.2.2.1), (.int .u32 x.1.2.2.2.2.2.2.2.2.2.2.1)]) 76 false (0, 0) false) fun b0_ =>
 M.load (.cell (.int .i64)) 1 ((Addr.mk b0_ 0 none).add 1) fun (x1_ : Int) =>
 f45c2 X L b0_ x1_

theorem e45 (X : XT) (L : LoopI) (x : (Int × Int × Int × Int × Int × Int × Int × Int × Int × Int × Int × Unit) × Unit) : evBody CC { call := X, loop := L } 45 (shsInj [(.agg [(.int .i64), (.int .i64), (.int .i64), (.int .i64), (.int .u32), (.int .u32), (.int .u32), (.int .u32), (.int .u32), (.int .u32), (.int .u32)])] x) = f45 X L x := by kernel_rfl

/-- hayrick/inode.Blocks -/
def f46 (X : XT) (L : LoopI) (x : (Int) × Unit) : M Value :=
 M.ite (leB x.1 0)
 (M.pure (.int .i64 0))
 (M.guard (!(decide (112 = 0)))
 (M.pure (.int .i64 (addW .i64 (IntKind.i64.wrap (((subW .i64 x.1 1) : Int).tdiv 112)) 1))))

theorem e46 (X : XT) (L : LoopI) (x : (Int) × Unit) : evBody CC { call := X, loop := L } 46 (shsInj [(.cell (.int .i64))] x) = f46 X L x := by kernel_rfl

/-- (*hayrick/store.Store).Data -/
def f47 (X : XT) (L : LoopI) (x : (PA) × (Int) × (Int) × (SL) × (Bool) × Unit) : M Value :=
 M.callS (.tuple [(.cell (.int .u32)), (.cell (.int .i64))]) (X (.call 67 [(.pointer x.1), (.iface 136 (.agg ⟨[(.int .i64 x.2.1), (.int .i64 x.2.2.1), (.slice x.2.2.2.1.1 x.2.2.2.1.2.1 x.2.2.2.1.2.2)]⟩)), (.bool x.2.2.2.2.1)])) fun (r0_ : (Int) × (Int) × Unit) =>
 M.pure (.tuple ⟨[(.int .u32 r0_.1), (.int .i64 r0_.2.1)]⟩)

theorem e47 (X : XT) (L : LoopI) (x : (PA) × (Int) × (Int) × (SL) × (Bool) × Unit) : evBody CC { call := X, loop := L } 47 (shsInj [(.cell .ptr), (.cell (.int .i64)), (.cell (.int .i64)), (.cell .slice), (.cell .bool)] x) = f47 X L x := by kernel_rfl

/-- hayrick/files.save -/
def f48c0 (X : XT) (L : LoopI) (x : (PA) × (Int × Int × Int × Int × Int × Int × Int × Int × Int × Int × Int × Unit) × (SL) × (Bool) × Unit) (b0_ : Nat) : M (Value) :=
 M.load (.agg [(.int .i64), (.int .i64), (.int .i64), (.int .i64), (.int .u32), (.int .u32), (.int .u32), (.int .u32), (.int .u32), (.int .u32), (.int .u32)]) 11 (Addr.mk b0_ 0 none) fun (x6_ : Int × Int × Int × Int × Int × Int × Int × Int × Int × Int × Int × Unit) =>
 M.callS (.one (.cell (.int .i64))) (X (.call 70 [(.pointer x.1), (.agg ⟨[(.int .i64 x6_.1), (.int .i64 x6_.2.1), (.int .i64 x6_.2.2.1), (.int .i64 x6_.2.2.2.1), (.int .u32 x6_.2.2.2.2.1), (.int .u32 x6_.2.2.2.2.2.1), (.int .u32 x6_.2.2.2.2.2.2.1), (.int .u32 x6_.2.2.2.2.2.2.2.1), (.int .u32 x6_.2.2.2.2.2.2.2.2.1), (.int .u32 x6_.2.2.2.2.2.2.2.2.2.1), (.int .u32 x6_.2.2.2.2.2.2.2.2.2.2.1)]⟩), (.bool x.2.2.2.1)])) fun (r7_ : Int) =>
 M.pure (.int .i64 r7_)
def f48c1 (X : XT) (L : LoopI) (x : (PA) × (Int × Int × Int × Int × Int × Int × Int × Int × Int × Int × Int × Unit) × (SL) × (Bool) × Unit) (b0_ : Nat) (j1_ : (Int) × Unit) (r4_ : (Int × Int × Int × Int × Int × Int × Int × Int × Int × Int × Int × Unit) × (SL) × (Int) × Unit) : M (Value) :=
 M.store (Addr.mk b0_ 0 none) [(.int .i64 r4_.1.1), (.int .i64 r4_.1.2.1), (.int .i64 r4_.1.2.2.1), (.int .i64 r4_.1.2.2.2.1), (.int .u32 r4_.1.2.2.2.2.1), (.int .u32 r4_.1.2.2.2.2.2.1), (.int .u32 r4_.1.2.2.2.2.2.2.1), (.int .u32 r4_.1.2.2.2.2.2.2.2.1), (.int .u32 r4_.1.2.2.2.2.2.2.2.2.1), (.int .u32 r4_.1.2.2.2.2.2.2.2.2.2.1), (.int .u32 r4_.1.2.2.2.2.2.2.2.2.2.2.1)]
 (M.ite (!(eqB r4_.2.2.1 0))
 (M.pure (.int .i64 r4_.2.2.1))
 (M.store ((Addr.mk b0_ 0 none).add 10) [(.int .u32 j1_.1)]
 (f48c0 X L x b0_)))
def f48c2 (X : XT) (L : LoopI) (x : (PA) × (Int × Int × Int × Int × Int × Int × Int × Int × Int × Int × Int × Unit) × (SL) × (Bool) × Unit) (b0_ : Nat) (j1_ : (Int) × Unit) (x3_ : Int × Int × Int × Int × Int × Int × Int × Int × Int × Int × Int × Unit) : M (Value) :=
 M.callS (.tuple [(.agg [(.int .i64), (.int .i64), (.int .i64), (.int .i64), (.int .u32), (.int .u32), (.int .u32), (.int .u32), (.int .u32), (.int .u32), (.int .u32)]), (.cell .slice), (.cell (.int .i64))]) (X (.call 69 [(.agg ⟨[(.int .i64 x3_.1), (.int .i64 x3_.2.1), (.int .i64 x3_.2.2.1), (.int .i64 x3_.2.2.2.1), (.int .u32 x3_.2.2.2.2.1), (.int .u32 x3_.2.2.2.2.2.1), (.int .u32 x3_.2.2.2.2.2.2.1), (.int .u32 x3_.2.2.2.2.2.2.2.1), (.int .u32 x3_.2.2.2.2.2.2.2.2.1), (.int .u32 x3_.2.2.2.2.2.2.2.2.2.1), (.int .u32 x3_.2.2.2.2.2.2.2.2.2.2.1)]⟩), (.slice x.2.2.1.1 x.2.2.1.2.1 x.2.2.1.2.2)])) fun (r4_ : (Int × Int × Int × Int × Int × Int × Int × Int × Int × Int × Int × Unit) × (SL) × (Int) × Unit) =>
 f48c1 X L x b0_ j1_ r4_
def f48c3 (X : XT) (L : LoopI) (x : (PA) × (Int × Int × Int × Int × Int × Int × Int × Int × Int × Int × Int × Unit) × (SL) × (Bool) × Unit) (b0_ : Nat) (go2_ : ((Int) × Unit) → M (Value)) (x8_ : Int) : M (Value) :=
 M.callS (.one (.cell (.int .i64))) (X (.call 46 [(.int .i64 x8_)])) fun (r9_ : Int) =>
 M.ite (ltB 6 r9_)
 (M.load (.cell (.int .i64)) 1 ((Addr.mk b0_ 0 none).add 0) fun (x11_ : Int) =>
 M.guard (upB 6 x.2.2.1.2.1)
 (let v12_ : Nat := (Int.toNat 6)
 M.callS (.tuple [(.cell (.int .u32)), (.cell (.int .i64))]) (X (.call 68 [(.pointer x.1), (.int .i64 x11_), (.slice (x.2.2.1.1.map (·.add (v12_ * 1))) (x.2.2.1.2.1 - v12_) (x.2.2.1.2.2 - v12_)), (.bool false)])) fun (r13_ : (Int) × (Int) × Unit) =>
 M.ite (!(eqB r13_.2.1 0))
 (M.pure (.int .i64 r13_.2.1))
 (go2_ (r13_.1, ()))))
 (go2_ (0, ()))
def f48c4 (X : XT) (L : LoopI) (x : (PA) × (Int × Int × Int × Int × Int × Int × Int × Int × Int × Int × Int × Unit) × (SL) × (Bool) × Unit) : M (Value) :=
 M.new (.cells (Row.ofList [(.int .i64 x.2.1.1), (.int .i64 x.2.1.2.1), (.int .i64 x.2.1.2.2.1), (.int .i64 x.2.1.2.2.2.1), (.int .u32 x.2.1.2.2.2.2.1), (.int .u32 x.2.1.2.2.2.2.2.1), (.int .u32 x.2.1.2.2.2.2.2.2.1), (.int .u32 x.2.1.2.2.2.2.2.2.2.1), (.int .u32 x.2.1.2.2.2.2.2.2.2.2.1), (.int .u32 x.2.1.2.2.2.2.2.2.2.2.2.1), (.int .u32 x.2.1.2.2.2.2.2.2.2.2.2.2.1)]) 76 false (0, 0) false) fun b0_ =>
 M.join (fun (j1_ : (Int) × Unit) =>
 M.load (.agg [(.int .i64), (.int .i64), (.int .i64), (.int .i64), (.int .u32), (.int .u32), (.int .u32), (.int .u32), (.int .u32), (.int .u32), (.int .u32)]) 11 (Addr.mk b0_ 0 none) fun (x3_ : Int × Int × Int × Int × Int × Int × Int × Int × Int × Int × Int × Unit) =>
 f48c2 X L x b0_ j1_ x3_) fun go2_ =>
 M.load (.cell (.int .i64)) 1 ((Addr.mk b0_ 0 none).add 2) fun (x8_ : Int) =>
 f48c3 X L x b0_ go2_ x8_
def f48 (X : XT) (L : LoopI) (x : (PA) × (Int × Int × Int × Int × Int × Int × Int × Int × Int × Int × Int × Unit) × (SL) × (Bool) × Unit) : M Value :=
 f48c4 X L x

theorem e48 (X : XT) (L : LoopI) (x : (PA) × (Int × Int × Int × Int × Int × Int × Int × Int × Int × Int × Int × Unit) × (SL) × (Bool) × Unit) : evBody CC { call := X, loop := L } 48 (shsInj [(.cell .ptr), (.agg [(.int .i64), (.int .i64), (.int .i64), (.int .i64), (.int .u32), (.int .u32), (.int .u32), (.int .u32), (.int .u32), (.int .u32), (.int .u32)]), (.cell .slice), (.cell .bool)] x) = f48 X L x := by kernel_rfl

/-- hayrick/hayrickref11.May -/
def f49c0 (X : XT) (L : LoopI) (b0_ : Nat) (r7_ : Int) : M (Value) :=
 M.bind (L (σ := (Int) × Unit) (ρ := (Unit) ⊕ (((Bool) × Unit) ⊕ (Unit))) (fun s8_ =>
 M.ite (ltB s8_.1 6)
 (M.join (fun (j10_ : (Bool) × Unit) =>
 M.ite j10_.1
 (M.pure (.inr (.inr (.inl (false, ())))))
 (M.pure (.inl ((addW .i64 s8_.1 1), ())))) fun go11_ =>
 M.ite (leB r7_ s8_.1)
 (M.guard (inB s8_.1 6)
 (M.load (.cell (.int .u32)) 1 (((Addr.mk b0_ 0 none).add 4).add ((Int.toNat s8_.1) * 1)) fun (x14_ : Int) =>
 go11_ ((!(eqB x14_ 0)), ())))
 (go11_ (false, ())))
 (M.pure (.inr (.inl (()))))) (0, ())) <| M.sum (fun (j16_ : Unit) =>
 M.join (fun (j17_ : (Bool) × Unit) =>
 M.pure (.bool j17_.1)) fun go18_ =>
 M.ite (ltB 6 r7_)
 (go18_ (true, ()))
 (M.load (.cell (.int .u32)) 1 ((Addr.mk b0_ 0 none).add 10) fun (x20_ : Int) =>
 go18_ ((eqB x20_ 0), ()))) (M.sum (fun (j22_ : (Bool) × Unit) =>
 M.pure (.bool j22_.1)) (fun _ => M.stuck))
def f49c1 (X : XT) (L : LoopI) (b0_ : Nat) (go5_ : (Unit) → M (Value)) (v32_ : Bool) : M (Value) :=
 M.ite v32_
 (M.join (fun (j33_ : (Bool) × Unit) =>
 M.ite j33_.1
 (M.pure (.bool false))
 (go5_ (()))) fun go34_ =>
 M.load (.cell (.int .i64)) 1 ((Addr.mk b0_ 0 none).add 2) fun (x35_ : Int) =>
 M.ite (ltB 1792 x35_)
 (go34_ (true, ()))
 (M.load (.cell (.int .i64)) 1 ((Addr.mk b0_ 0 none).add 2) fun (x37_ : Int) =>
 M.guard (!(decide (28 = 0)))
 (M.ite (!(eqB ((x37_ : Int).tmod 28) 0))
 (go34_ (true, ()))
 (M.load (.cell (.int .i64)) 1 ((Addr.mk b0_ 0 none).add 3) fun (x40_ : Int) =>
 go34_ ((!(eqB x40_ 1)), ())))))
 (M.pure (.bool false))
def f49c2 (X : XT) (L : LoopI) (b0_ : Nat) (x3_ : Int) : M (Value) :=
 M.join (fun (j4_ : Unit) =>
 M.load (.cell (.int .i64)) 1 ((Addr.mk b0_ 0 none).add 2) fun (x6_ : Int) =>
 M.callS (.one (.cell (.int .i64))) (X (.call 71 [(.int .i64 x6_)])) fun (r7_ : Int) =>
 f49c0 X L b0_ r7_) fun go5_ =>
 M.ite (eqB x3_ 1)
 (M.join (fun (j24_ : (Bool) × Unit) =>
 M.ite j24_.1
 (M.pure (.bool false))
 (go5_ (()))) fun go25_ =>
 M.load (.cell (.int .i64)) 1 ((Addr.mk b0_ 0 none).add 2) fun (x26_ : Int) =>
 M.ite (ltB 3808 x26_)
 (go25_ (true, ()))
 (M.load (.cell (.int .i64)) 1 ((Addr.mk b0_ 0 none).add 3) fun (x28_ : Int) =>
 M.ite (ltB x28_ 1)
 (go25_ (true, ()))
 (M.load (.cell (.int .i64)) 1 ((Addr.mk b0_ 0 none).add 3) fun (x30_ : Int) =>
 go25_ ((ltB 64 x30_), ()))))
 (f49c1 X L b0_ go5_ (eqB x3_ 2))
def f49c3 (X : XT) (L : LoopI) (b0_ : Nat) : M (Value) :=
 M.join (fun (j1_ : (Bool) × Unit) =>
 M.ite j1_.1
 (M.pure (.bool false))
 (M.load (.cell (.int .i64)) 1 ((Addr.mk b0_ 0 none).add 1) fun (x3_ : Int) =>
 f49c2 X L b0_ x3_)) fun go2_ =>
 M.load (.cell (.int .i64)) 1 ((Addr.mk b0_ 0 none).add 0) fun (x42_ : Int) =>
 M.ite (ltB x42_ 1)
 (go2_ (true, ()))
 (M.load (.cell (.int .i64)) 1 ((Addr.mk b0_ 0 none).add 0) fun (x44_ : Int) =>
 M.ite (ltB 64 x44_)
 (go2_ (true, ()))
 (M.load (.cell (.int .i64)) 1 ((Addr.mk b0_ 0 none).add 2) fun (x46_ : Int) =>
 go2_ ((ltB x46_ 0), ())))
def f49 (X : XT) (L : LoopI) (x : (Int × Int × Int × Int × Int × Int × Int × Int × Int × Int × Int × Unit) × Unit) : M Value :=
 M.new (.cells (Row.ofList [(.int .i64 x.1.1), (.int .i64 x.1.2.1), (.int .i64 x.1.2.2.1), (.int .i64 x.1.2.2.2.1), (.int .u32 x.1.2.2.2.2.1), (.int .u32 x.1.2.2.2.2.2.1), (.int .u32 x.1.2.2.2.2.2.2.1), (.int .u32 x.1.2.2.2.2.2.2.2.1), (.int .u32 x.1.2.2.2.2.2.2.2.2.1), (.int .u32 x.1.2.2.2.2.2.2.2.2.2.1), (.int .u32 x.1.2.2.2.2.2.2.2.2.2.2.1)]) 76 false (0, 0) false) fun b0_ =>
 f49c3 X L b0_

theorem e49 (X : XT) (L : LoopI) (x : (Int × Int × Int × Int × Int × Int × Int × Int × Int × Int × Int × Unit) × Unit) : evBody CC { call := X, loop := L } 49 (shsInj [(.agg [(.int .i64), (.int .i64), (.int .i64), (.int .i64), (.int .u32), (.int .u32), (.int .u32), (.int .u32), (.int .u32), (.int .u32), (.int .u32)])] x) = f49 X L x := by kernel_rfl

/-- (*hayrick/hayrickref18.Store).Data -/
def f50 (X : XT) (L : LoopI) (x : (PA) × (Int) × (Int) × (SL) × (Bool) × Unit) : M Value :=
 M.deref x.1 fun a0_ =>
 M.load (.cell .ptr) 1 (a0_.add 0) fun (x1_ : PA) =>
 M.callS (.tuple [(.cell (.int .u32)), (.cell (.int .i64))]) (X (.call 72 [(.pointer x1_), (.agg ⟨[(.int .i64 1), (.bool x.2.2.2.2.1), (.int .i64 x.2.1), (.int .i64 x.2.2.1)]⟩), (.slice x.2.2.2.1.1 x.2.2.2.1.2.1 x.2.2.2.1.2.2)])) fun (r2_ : (Int) × (Int) × Unit) =>
 M.pure (.tuple ⟨[(.int .u32 r2_.1), (.int .i64 r2_.2.1)]⟩)

theorem e50 (X : XT) (L : LoopI) (x : (PA) × (Int) × (Int) × (SL) × (Bool) × Unit) : evBody CC { call := X, loop := L } 50 (shsInj [(.cell .ptr), (.cell (.int .i64)), (.cell (.int .i64)), (.cell .slice), (.cell .bool)] x) = f50 X L x := by kernel_rfl

/-- hayrick/hayrickref19.save -/
def f51c0 (X : XT) (L : LoopI) (x : (PA) × (Int × Int × Int × Int × Int × Int × Int × Int × Int × Int × Int × Unit) × (Int) × (SL) × (Bool) × Unit) (s2_ : (SL) × (Int) × Unit) : M (((SL) × (Int) × Unit) ⊕ (((SL) × Unit) ⊕ (Unit))) :=
 M.join (fun (j4_ : (Int) × Unit) =>
 M.new (.cells (Row.ofList [(.int .u32 j4_.1)]) 73 false (0, 0) false) fun b6_ =>
 M.append 73 1 4 s2_.1.1 s2_.1.2.1 s2_.1.2.2 (.slice (some (Addr.mk b6_ 0 none)) 1 1) fun a7_ n8_ c9_ =>
 M.pure (.inl ((a7_, n8_, c9_), (addW .i64 s2_.2.1 1), ()))) fun go5_ =>
 M.ite (ltB s2_.2.1 ((x.2.2.2.1.2.1 : Nat) : Int))
 (M.guard (inB s2_.2.1 x.2.2.2.1.2.1)
 (M.deref x.2.2.2.1.1 fun a13_ =>
 M.load (.cell (.int .u32)) 1 (a13_.add ((Int.toNat s2_.2.1) * 1)) fun (x14_ : Int) =>
 go5_ (x14_, ())))
 (go5_ (0, ()))
def f51c1 (X : XT) (L : LoopI) (x : (PA) × (Int × Int × Int × Int × Int × Int × Int × Int × Int × Int × Int × Unit) × (Int) × (SL) × (Bool) × Unit) (b19_ : Nat) : M (Value) :=
 M.load (.agg [(.int .i64), (.int .i64), (.int .i64), (.int .i64), (.int .u32), (.int .u32), (.int .u32), (.int .u32), (.int .u32), (.int .u32), (.int .u32)]) 11 (Addr.mk b19_ 0 none) fun (x31_ : Int × Int × Int × Int × Int × Int × Int × Int × Int × Int × Int × Unit) =>
 M.callS (.one (.cell (.int .i64))) (X (.call 74 [(.pointer x.1), (.agg ⟨[(.int .i64 x31_.1), (.int .i64 x31_.2.1), (.int .i64 x31_.2.2.1), (.int .i64 x31_.2.2.2.1), (.int .u32 x31_.2.2.2.2.1), (.int .u32 x31_.2.2.2.2.2.1), (.int .u32 x31_.2.2.2.2.2.2.1), (.int .u32 x31_.2.2.2.2.2.2.2.1), (.int .u32 x31_.2.2.2.2.2.2.2.2.1), (.int .u32 x31_.2.2.2.2.2.2.2.2.2.1), (.int .u32 x31_.2.2.2.2.2.2.2.2.2.2.1)]⟩), (.bool x.2.2.2.2.1)])) fun (r32_ : Int) =>
 M.pure (.int .i64 r32_)
def f51c2 (X : XT) (L : LoopI) (x : (PA) × (Int × Int × Int × Int × Int × Int × Int × Int × Int × Int × Int × Unit) × (Int) × (SL) × (Bool) × Unit) (b0_ : Nat) (j15_ : (SL) × Unit) (b19_ : Nat) (go30_ : (Unit) → M (Value)) : M (Value) :=
 M.load (.cell (.int .i64)) 1 ((Addr.mk b0_ 0 none).add 0) fun (x34_ : Int) =>
 M.guard (upB 6 j15_.1.2.1)
 (let v35_ : Nat := (Int.toNat 6)
 M.callS (.tuple [(.cell (.int .u32)), (.cell (.int .i64))]) (X (.call 73 [(.pointer x.1), (.int .i64 x34_), (.slice (j15_.1.1.map (·.add (v35_ * 1))) (j15_.1.2.1 - v35_) (j15_.1.2.2 - v35_)), (.bool false)])) fun (r36_ : (Int) × (Int) × Unit) =>
 M.ite (!(eqB r36_.2.1 0))
 (M.pure (.int .i64 r36_.2.1))
 (M.store ((Addr.mk b19_ 0 none).add 10) [(.int .u32 r36_.1)]
 (go30_ (()))))
def f51c3 (X : XT) (L : LoopI) (x : (PA) × (Int × Int × Int × Int × Int × Int × Int × Int × Int × Int × Int × Unit) × (Int) × (SL) × (Bool) × Unit) (b0_ : Nat) (r1_ : Int) (j15_ : (SL) × Unit) (b19_ : Nat) : M (Value) :=
 M.bind (L (σ := (Int) × Unit) (ρ := (Unit) ⊕ (Unit)) (fun s20_ =>
 M.join (fun (j21_ : (Bool) × Unit) =>
 M.ite j21_.1
 (M.guard (inB s20_.1 j15_.1.2.1)
 (M.deref j15_.1.1 fun a23_ =>
 M.load (.cell (.int .u32)) 1 (a23_.add ((Int.toNat s20_.1) * 1)) fun (x24_ : Int) =>
 M.guard (inB s20_.1 6)
 (M.store (((Addr.mk b19_ 0 none).add 4).add ((Int.toNat s20_.1) * 1)) [(.int .u32 x24_)]
 (M.pure (.inl ((addW .i64 s20_.1 1), ()))))))
 (M.pure (.inr (.inl (()))))) fun go22_ =>
 M.ite (ltB s20_.1 r1_)
 (go22_ ((ltB s20_.1 6), ()))
 (go22_ (false, ()))) (0, ())) <| M.sum (fun (j28_ : Unit) =>
 M.join (fun (j29_ : Unit) =>
 f51c1 X L x b19_) fun go30_ =>
 M.ite (ltB 6 r1_)
 (f51c2 X L x b0_ j15_ b19_ go30_)
 (go30_ (()))) (fun _ => M.stuck)
def f51c4 (X : XT) (L : LoopI) (x : (PA) × (Int × Int × Int × Int × Int × Int × Int × Int × Int × Int × Int × Unit) × (Int) × (SL) × (Bool) × Unit) (b0_ : Nat) (r1_ : Int) (j15_ : (SL) × Unit) (x16_ : Int) (x17_ : Int) : M (Value) :=
 M.load (.cell (.int .i64)) 1 ((Addr.mk b0_ 0 none).add 3) fun (x18_ : Int) =>
 M.new (.cells (Row.ofList [(.int .i64 0), (.int .i64 0), (.int .i64 0), (.int .i64 0), (.int .u32 0), (.int .u32 0), (.int .u32 0), (.int .u32 0), (.int .u32 0), (.int .u32 0), (.int .u32 0)]) 76 false (0, 0) false) fun b19_ =>
 M.store (Addr.mk b19_ 0 none) [(.int .i64 x16_), (.int .i64 x17_), (.int .i64 x.2.2.1), (.int .i64 x18_), (.int .u32 0), (.int .u32 0), (.int .u32 0), (.int .u32 0), (.int .u32 0), (.int .u32 0), (.int .u32 0)]
 (f51c3 X L x b0_ r1_ j15_ b19_)
def f51c5 (X : XT) (L : LoopI) (x : (PA) × (Int × Int × Int × Int × Int × Int × Int × Int × Int × Int × Int × Unit) × (Int) × (SL) × (Bool) × Unit) (b0_ : Nat) : M (Value) :=
 M.callS (.one (.cell (.int .i64))) (X (.call 71 [(.int .i64 x.2.2.1)])) fun (r1_ : Int) =>
 M.bind (L (σ := (SL) × (Int) × Unit) (ρ := ((SL) × Unit) ⊕ (Unit)) (fun s2_ =>
 M.ite (ltB s2_.2.1 r1_)
 (f51c0 X L x s2_)
 (M.pure (.inr (.inl (s2_.1, ()))))) ((none, 0, 0), 0, ())) <| M.sum (fun (j15_ : (SL) × Unit) =>
 M.load (.cell (.int .i64)) 1 ((Addr.mk b0_ 0 none).add 0) fun (x16_ : Int) =>
 M.load (.cell (.int .i64)) 1 ((Addr.mk b0_ 0 none).add 1) fun (x17_ : Int) =>
 f51c4 X L x b0_ r1_ j15_ x16_ x17_) (fun _ => M.stuck)
def f51 (X : XT) (L : LoopI) (x : (PA) × (Int × Int × Int × Int × Int × Int × Int × Int × Int × Int × Int × Unit) × (Int) × (SL) × (Bool) × Unit) : M Value :=
 M.new (.cells (Row.ofList [(.int .i64 x.2.1.1), (.int .i64 x.2.1.2.1), (.int .i64 x.2.1.2.2.1), (.int .i64 x.2.1.2.2.2.1), (.int .u32 x.2.1.2.2.2.2.1), (.int .u32 x.2.1.2.2.2.2.2.1), (.int .u32 x.2.1.2.2.2.2.2.2.1), (.int .u32 x.2.1.2.2.2.2.2.2.2.1), (.int .u32 x.2.1.2.2.2.2.2.2.2.2.1), (.int .u32 x.2.1.2.2.2.2.2.2.2.2.2.1), (.int .u32 x.2.1.2.2.2.2.2.2.2.2.2.2.1)]) 76 false (0, 0) false) fun b0_ =>
 f51c5 X L x b0_

theorem e51 (X : XT) (L : LoopI) (x : (PA) × (Int × Int × Int × Int × Int × Int × Int × Int × Int × Int × Int × Unit) × (Int) × (SL) × (Bool) × Unit) : evBody CC { call := X, loop := L } 51 (shsInj [(.cell .ptr), (.agg [(.int .i64), (.int .i64), (.int .i64), (.int .i64), (.int .u32), (.int .u32), (.int .u32), (.int .u32), (.int .u32), (.int .u32), (.int .u32)]), (.cell (.int .i64)), (.cell .slice), (.cell .bool)] x) = f51 X L x := by kernel_rfl

/-- hayrick/entry.Put -/
def f52c0 (X : XT) (L : LoopI) (v3_ : Int) (b4_ : Nat) (s6_ : (Int) × Unit) (b10_ : Nat) (v12_ : Nat) (x18_ : ByteArray) (v20_ : Int) : M (((Int) × Unit) ⊕ ((Unit) ⊕ (Unit))) :=
 M.load (.cell .string) 1 ((Addr.mk b10_ 0 none).add 1) fun (x23_ : ByteArray) => cond (veqv (.string x23_) (.string x18_)) (M.guard (inB 2 ((Int.toNat v3_) - v12_))
 (M.store (((Addr.mk b4_ 0 none).add (v12_ * 1)).add ((Int.toNat 2) * 1)) [(.int .u8 v20_)]
 (M.guard (upB 3 ((Int.toNat v3_) - v12_))
 (let v24_ : Nat := (Int.toNat 3)
 M.load (.cell .string) 1 ((Addr.mk b10_ 0 none).add 1) fun (x25_ : ByteArray) =>
 M.copy 1 (some (((Addr.mk b4_ 0 none).add (v12_ * 1)).add (v24_ * 1))) (((Int.toNat v3_) - v12_) - v24_) (.string x25_) fun m26_ =>
 M.pure (.inl ((addW .i64 s6_.1 1), ())))))) M.stuck
def f52c1 (X : XT) (L : LoopI) (v3_ : Int) (b4_ : Nat) (s6_ : (Int) × Unit) (b10_ : Nat) (v12_ : Nat) (v15_ : Int) (x16_ : Int) (v17_ : Int) (x18_ : ByteArray) (v20_ : Int) : M (((Int) × Unit) ⊕ ((Unit) ⊕ (Unit))) :=
 M.store (((Addr.mk b4_ 0 none).add (v12_ * 1)).add ((Int.toNat 0) * 1)) [(.int .u8 v15_)]
 (M.load (.cell .string) 1 ((Addr.mk b10_ 0 none).add 1) fun (x21_ : ByteArray) => cond (veqv (.string x21_) (.string x18_)) (M.load (.cell (.int .i64)) 1 ((Addr.mk b10_ 0 none).add 0) fun (x22_ : Int) => cond (veqv (.int .i64 x22_) (.int .i64 x16_)) (M.guard (inB 1 ((Int.toNat v3_) - v12_))
 (M.store (((Addr.mk b4_ 0 none).add (v12_ * 1)).add ((Int.toNat 1) * 1)) [(.int .u8 v17_)]
 (f52c0 X L v3_ b4_ s6_ b10_ v12_ x18_ v20_))) M.stuck) M.stuck)
def f52c2 (X : XT) (L : LoopI) (v3_ : Int) (b4_ : Nat) (s6_ : (Int) × Unit) (b10_ : Nat) (v11_ : Int) : M (((Int) × Unit) ⊕ ((Unit) ⊕ (Unit))) :=
 M.guard (upB v11_ (Int.toNat v3_))
 (let v12_ : Nat := (Int.toNat v11_)
 M.load (.cell (.int .i64)) 1 ((Addr.mk b10_ 0 none).add 0) fun (x13_ : Int) =>
 M.guard (decide (0 ≤ 8))
 (M.load (.cell (.int .i64)) 1 ((Addr.mk b10_ 0 none).add 0) fun (x16_ : Int) =>
 M.load (.cell .string) 1 ((Addr.mk b10_ 0 none).add 1) fun (x18_ : ByteArray) =>
 M.guard (inB 0 ((Int.toNat v3_) - v12_))
 (f52c1 X L v3_ b4_ s6_ b10_ v12_ (wrapW .u8 (((x13_ : Int)).fdiv (2 ^ (min (Int.toNat 8) IntKind.i64.bits)))) x16_ (wrapW .u8 x16_) x18_ (wrapW .u8 ((x18_.size : Nat) : Int)))))
def f52c3 (X : XT) (L : LoopI) (x : (SL) × Unit) (v3_ : Int) (b4_ : Nat) (v5_ : Int) : M (Value) :=
 M.bind (L (σ := (Int) × Unit) (ρ := (Unit) ⊕ (Unit)) (fun s6_ =>
 M.ite (ltB s6_.1 v5_)
 (M.guard (inB s6_.1 x.1.2.1)
 (M.deref x.1.1 fun a8_ =>
 M.load (.agg [(.int .i64), .string]) 2 (a8_.add ((Int.toNat s6_.1) * 2)) fun (x9_ : Int × ByteArray × Unit) =>
 M.new (.cells (Row.ofList [(.int .i64 0), (.string st0)]) 47 false (0, 0) false) fun b10_ =>
 M.store (Addr.mk b10_ 0 none) [(.int .i64 x9_.1), (.string x9_.2.1)]
 (f52c2 X L v3_ b4_ s6_ b10_ (mulW .i64 s6_.1 28))))
 (M.pure (.inr (.inl (()))))) (0, ())) <| M.sum (fun (j28_ : Unit) =>
 M.pure (.tuple ⟨[(.slice (some (Addr.mk b4_ 0 none)) (Int.toNat v3_) (Int.toNat v3_)), (.int .i64 0)]⟩)) (fun _ => M.stuck)
def f52 (X : XT) (L : LoopI) (x : (SL) × Unit) : M Value :=
 M.callS (.one (.cell .bool)) (X (.call 75 [(.slice x.1.1 x.1.2.1 x.1.2.2)])) fun (r0_ : Bool) =>
 M.ite (!r0_)
 (M.pure (.tuple ⟨[(.slice none 0 0), (.int .i64 1)]⟩))
 (let v3_ : Int := mulW .i64 ((x.1.2.1 : Nat) : Int) 28
 M.guard (decide (0 ≤ v3_) && decide (v3_ ≤ v3_) && decide ((1 : Int) * v3_ ≤ 2 ^ 48))
 (M.new (.cells (Row.rep [(.int .u8 0)] (Int.toNat v3_)) 5 false (0, 0) false) fun b4_ =>
 f52c3 X L x v3_ b4_ ((x.1.2.1 : Nat) : Int)))

theorem e52 (X : XT) (L : LoopI) (x : (SL) × Unit) : evBody CC { call := X, loop := L } 52 (shsInj [(.cell .slice)] x) = f52 X L x := by kernel_rfl

end
end Go.Proofs.YtidadbppnmnfmaaGreatDoor.pa
