/-
  What the functions that PathKnown reaches come to, part 0: each text, and that the reading gives it.
-/
import Derived.Test.YtcfnndmehnppnaaGreatDoorPathKnownH
import Derived.KernelRfl
set_option linter.unusedVariables false
namespace Go.Proofs.YtcfnndmehnppnaaGreatDoor.pathKnown
open Go Go.Eng
noncomputable section
/-- hayrick/hayricklaw22.PathKnown -/
def f4c0 (X : Task → M Value) (L : LoopI) (r21_ : ((Option Addr × Nat × Nat)) × (Int) × Unit) (r24_ : ((Option Addr × Nat × Nat)) × (Int) × Unit) (r26_ : ((Option Addr × Nat × Nat)) × (Int) × Unit) (r27_ : (Int) × (ByteArray) × (Int) × Unit) (r28_ : (Int) × (ByteArray) × (Int) × Unit) (go30_ : ((Bool) × Unit) → M (Value)) : M (Value) :=
 M.ite (r21_.2.1 == 2)
 (M.ite (((r24_.1.2.1 : Nat) : Int) == 1)
 (M.ite (r24_.2.1 == 0)
 (M.ite (r26_.2.1 == 6)
 (M.ite (r27_.2.2.1 == 6)
 (M.ite (r28_.2.2.1 == 30)
 (M.callS (.one (.cell .bool)) (X (.call 22 [(.string st12), (.string st2)])) fun (r46_ : Bool) =>
 M.ite (!r46_)
 (M.callS (.one (.cell .bool)) (X (.call 23 [])) fun (r48_ : Bool) =>
 go30_ (r48_, ()))
 (go30_ (false, ())))
 (go30_ (false, ())))
 (go30_ (false, ())))
 (go30_ (false, ())))
 (go30_ (false, ())))
 (go30_ (false, ())))
 (go30_ (false, ()))
def f4c1 (X : Task → M Value) (L : LoopI) (r13_ : ((Option Addr × Nat × Nat)) × (Int) × Unit) (r15_ : ((Option Addr × Nat × Nat)) × (Int) × Unit) (r16_ : ((Option Addr × Nat × Nat)) × (Int) × Unit) (r17_ : ((Option Addr × Nat × Nat)) × (Int) × Unit) (r18_ : (ByteArray) × (Int) × Unit) (r19_ : (Int) × (Int) × Unit) (r20_ : (Int) × (ByteArray) × (Int) × Unit) (r21_ : ((Option Addr × Nat × Nat)) × (Int) × Unit) (r22_ : (Option Addr) × (Option Addr) × Unit) (r24_ : ((Option Addr × Nat × Nat)) × (Int) × Unit) (r26_ : ((Option Addr × Nat × Nat)) × (Int) × Unit) (r27_ : (Int) × (ByteArray) × (Int) × Unit) : M (Value) :=
 M.callS (.tuple [(.cell (.int .i64)), (.cell .string), (.cell (.int .i64))]) (X (.call 19 [(.pointer r22_.1), (.string st13)])) fun (r28_ : (Int) × (ByteArray) × (Int) × Unit) =>
 M.join (fun (j29_ : (Bool) × Unit) =>
 M.pure (.bool j29_.1)) fun go30_ =>
 M.ite (r13_.2.1 == 0)
 (M.ite (r15_.2.1 == 30)
 (M.ite (r16_.2.1 == 31)
 (M.ite (r17_.2.1 == 31)
 (M.ite (seq r18_.1 st13)
 (M.ite (r18_.2.1 == 0)
 (M.ite (r19_.2.1 == 2)
 (M.ite (r20_.2.2.1 == 2)
 (f4c0 X L r21_ r24_ r26_ r27_ r28_ go30_)
 (go30_ (false, ())))
 (go30_ (false, ())))
 (go30_ (false, ())))
 (go30_ (false, ())))
 (go30_ (false, ())))
 (go30_ (false, ())))
 (go30_ (false, ())))
 (go30_ (false, ()))
def f4c2 (X : Task → M Value) (L : LoopI) (r13_ : ((Option Addr × Nat × Nat)) × (Int) × Unit) (r15_ : ((Option Addr × Nat × Nat)) × (Int) × Unit) (r16_ : ((Option Addr × Nat × Nat)) × (Int) × Unit) (r17_ : ((Option Addr × Nat × Nat)) × (Int) × Unit) (r18_ : (ByteArray) × (Int) × Unit) (r19_ : (Int) × (Int) × Unit) (r20_ : (Int) × (ByteArray) × (Int) × Unit) (r21_ : ((Option Addr × Nat × Nat)) × (Int) × Unit) (r22_ : (Option Addr) × (Option Addr) × Unit) (r24_ : ((Option Addr × Nat × Nat)) × (Int) × Unit) : M (Value) :=
 M.new (.cells (Row.ofList [(.string st1)]) 9 false (0, 0) false) fun b25_ =>
 M.callS (.tuple [(.cell .slice), (.cell (.int .i64))]) (X (.call 20 [(.pointer r22_.1), (.slice (some (Addr.mk b25_ 0 none)) 1 1)])) fun (r26_ : ((Option Addr × Nat × Nat)) × (Int) × Unit) =>
 M.callS (.tuple [(.cell (.int .i64)), (.cell .string), (.cell (.int .i64))]) (X (.call 19 [(.pointer r22_.1), (.string st12)])) fun (r27_ : (Int) × (ByteArray) × (Int) × Unit) =>
 f4c1 X L r13_ r15_ r16_ r17_ r18_ r19_ r20_ r21_ r22_ r24_ r26_ r27_
def f4c3 (X : Task → M Value) (L : LoopI) (r13_ : ((Option Addr × Nat × Nat)) × (Int) × Unit) (r15_ : ((Option Addr × Nat × Nat)) × (Int) × Unit) (r16_ : ((Option Addr × Nat × Nat)) × (Int) × Unit) (r17_ : ((Option Addr × Nat × Nat)) × (Int) × Unit) (r18_ : (ByteArray) × (Int) × Unit) (r19_ : (Int) × (Int) × Unit) (r20_ : (Int) × (ByteArray) × (Int) × Unit) : M (Value) :=
 M.callS (.tuple [(.cell .slice), (.cell (.int .i64))]) (X (.call 20 [(.pointer none), (.slice none 0 0)])) fun (r21_ : ((Option Addr × Nat × Nat)) × (Int) × Unit) =>
 M.callS (.tuple [(.cell .ptr), (.cell .ptr)]) (X (.call 21 [(.slice none 0 0)])) fun (r22_ : (Option Addr) × (Option Addr) × Unit) =>
 M.eqPtr r22_.1 none fun (q23_ : Bool) =>
 M.ite q23_
 (M.pure (.bool false))
 (M.callS (.tuple [(.cell .slice), (.cell (.int .i64))]) (X (.call 20 [(.pointer r22_.1), (.slice none 0 0)])) fun (r24_ : ((Option Addr × Nat × Nat)) × (Int) × Unit) =>
 f4c2 X L r13_ r15_ r16_ r17_ r18_ r19_ r20_ r21_ r22_ r24_)
def f4c4 (X : Task → M Value) (L : LoopI) (r13_ : ((Option Addr × Nat × Nat)) × (Int) × Unit) (r15_ : ((Option Addr × Nat × Nat)) × (Int) × Unit) (r16_ : ((Option Addr × Nat × Nat)) × (Int) × Unit) : M (Value) :=
 M.callS (.tuple [(.cell .slice), (.cell (.int .i64))]) (X (.call 16 [(.string st10)])) fun (r17_ : ((Option Addr × Nat × Nat)) × (Int) × Unit) =>
 M.callS (.tuple [(.cell .string), (.cell (.int .i64))]) (X (.call 17 [(.slice none 0 0)])) fun (r18_ : (ByteArray) × (Int) × Unit) =>
 M.callS (.tuple [(.cell (.int .i64)), (.cell (.int .i64))]) (X (.call 18 [(.pointer none), (.string st11)])) fun (r19_ : (Int) × (Int) × Unit) =>
 M.callS (.tuple [(.cell (.int .i64)), (.cell .string), (.cell (.int .i64))]) (X (.call 19 [(.pointer none), (.string st11)])) fun (r20_ : (Int) × (ByteArray) × (Int) × Unit) =>
 f4c3 X L r13_ r15_ r16_ r17_ r18_ r19_ r20_
def f4c5 (X : Task → M Value) (L : LoopI) (j12_ : (ByteArray) × Unit) : M (Value) :=
 M.callS (.tuple [(.cell .slice), (.cell (.int .i64))]) (X (.call 16 [(.string j12_.1)])) fun (r13_ : ((Option Addr × Nat × Nat)) × (Int) × Unit) =>
 M.guard (Nat.ble (j12_.1.size + st8.size) 9223372036854775807)
 (M.callS (.tuple [(.cell .slice), (.cell (.int .i64))]) (X (.call 16 [(.string (j12_.1 ++ st8))])) fun (r15_ : ((Option Addr × Nat × Nat)) × (Int) × Unit) =>
 M.callS (.tuple [(.cell .slice), (.cell (.int .i64))]) (X (.call 16 [(.string st9)])) fun (r16_ : ((Option Addr × Nat × Nat)) × (Int) × Unit) =>
 f4c4 X L r13_ r15_ r16_)
def f4c6 (X : Task → M Value) (L : LoopI) (b0_ : Nat) : M (Value) :=
 M.bind (L (σ := (Int) × Unit) (ρ := (Unit) ⊕ (((Bool) × Unit) ⊕ (Unit))) (fun s1_ =>
 M.ite (decide (s1_.1 < 7))
 (M.guard (decide (0 ≤ s1_.1) && decide (s1_.1 < ((7 : Nat) : Int)))
 (M.load (.cell .string) 1 ((Addr.mk b0_ 0 none).add ((Int.toNat s1_.1) * 1)) fun (x3_ : ByteArray) =>
 M.callS (.tuple [(.cell .slice), (.cell (.int .i64))]) (X (.call 16 [(.string x3_)])) fun (r4_ : ((Option Addr × Nat × Nat)) × (Int) × Unit) =>
 M.ite (!(r4_.2.1 == 30))
 (M.pure (.inr (.inr (.inl (false, ())))))
 (M.pure (.inl ((IntKind.i64.wrap (s1_.1 + 1)), ())))))
 (M.pure (.inr (.inl (()))))) (0, ())) <| M.sum (fun (j7_ : Unit) =>
 M.bind (L (σ := (ByteArray) × Unit) (ρ := ((ByteArray) × Unit) ⊕ (Unit)) (fun s8_ =>
 M.ite (decide (((s8_.1.size : Nat) : Int) < 256))
 (M.guard (Nat.ble (s8_.1.size + st7.size) 9223372036854775807)
 (M.pure (.inl ((s8_.1 ++ st7), ()))))
 (M.pure (.inr (.inl (s8_.1, ()))))) (st0, ())) <| M.sum (fun (j12_ : (ByteArray) × Unit) =>
 f4c5 X L j12_) (fun _ => M.stuck)) (M.sum (fun (j49_ : (Bool) × Unit) =>
 M.pure (.bool j49_.1)) (fun _ => M.stuck))
def f4 (X : Task → M Value) (L : LoopI) (x : Unit) : M Value :=
 M.new (.cells (Row.ofList [(.string st0), (.string st0), (.string st0), (.string st0), (.string st0), (.string st0), (.string st0)]) 52 false (0, 0) false) fun b0_ =>
 M.store (Addr.mk b0_ 0 none) [(.string st0), (.string st1), (.string st2), (.string st3), (.string st4), (.string st5), (.string st6)]
 (f4c6 X L b0_)

theorem e4 (X : Task → M Value) (L : LoopI) (x : Unit) : evBody CC { call := X, loop := L } 4 (shsInj [] x) = f4 X L x := by kernel_rfl

/-- hayrick/path.Split -/
def f16c0 (X : Task → M Value) (L : LoopI) (r5_ : (Option Addr × Nat × Nat)) (v7_ : Int) : M (Value) :=
 M.bind (L (σ := (Int) × Unit) (ρ := (Unit) ⊕ ((((Option Addr × Nat × Nat)) × (Int) × Unit) ⊕ (Unit))) (fun s8_ =>
 M.ite (decide (s8_.1 < v7_))
 (M.guard (decide (0 ≤ s8_.1) && decide (s8_.1 < ((r5_.2.1 : Nat) : Int)))
 (M.deref r5_.1 fun a10_ =>
 M.load (.cell .string) 1 (a10_.add ((Int.toNat s8_.1) * 1)) fun (x11_ : ByteArray) =>
 M.callS (.one (.cell .bool)) (X (.call 49 [(.string x11_)])) fun (r12_ : Bool) =>
 M.ite (!r12_)
 (M.pure (.inr (.inr (.inl ((none, 0, 0), 31, ())))))
 (M.pure (.inl ((IntKind.i64.wrap (s8_.1 + 1)), ())))))
 (M.pure (.inr (.inl (()))))) (0, ())) <| M.sum (fun (j15_ : Unit) =>
 M.pure (.tuple ⟨[(.slice r5_.1 r5_.2.1 r5_.2.2), (.int .i64 0)]⟩)) (M.sum (fun (j16_ : ((Option Addr × Nat × Nat)) × (Int) × Unit) =>
 M.pure (.tuple ⟨[(.slice j16_.1.1 j16_.1.2.1 j16_.1.2.2), (.int .i64 j16_.2.1)]⟩)) (fun _ => M.stuck))
def f16c1 (X : Task → M Value) (L : LoopI) (x : (ByteArray) × Unit) (j0_ : (Bool) × Unit) : M (Value) :=
 M.ite j0_.1
 (M.pure (.tuple ⟨[(.slice none 0 0), (.int .i64 30)]⟩))
 (M.ite (seq x.1 st13)
 (M.pure (.tuple ⟨[(.slice none 0 0), (.int .i64 0)]⟩))
 (M.guard (decide (0 ≤ 1) && decide (1 ≤ ((x.1.size : Nat) : Int)))
 (M.callS (.one (.cell .slice)) (X (.call 47 [(.string (x.1.extract (Int.toNat 1) x.1.size))])) fun (r5_ : (Option Addr × Nat × Nat)) =>
 M.callS (.one (.cell .bool)) (X (.call 48 [(.slice r5_.1 r5_.2.1 r5_.2.2), (.string st0)])) fun (r6_ : Bool) =>
 M.ite r6_
 (M.pure (.tuple ⟨[(.slice none 0 0), (.int .i64 30)]⟩))
 (f16c0 X L r5_ ((r5_.2.1 : Nat) : Int)))))
def f16 (X : Task → M Value) (L : LoopI) (x : (ByteArray) × Unit) : M Value :=
 M.join (fun (j0_ : (Bool) × Unit) =>
 f16c1 X L x j0_) fun go1_ =>
 M.ite (decide (((x.1.size : Nat) : Int) > 256))
 (go1_ (true, ()))
 (M.callS (.one (.cell .bool)) (X (.call 46 [(.string x.1), (.string st13)])) fun (r19_ : Bool) =>
 go1_ ((!r19_), ()))

theorem e16 (X : Task → M Value) (L : LoopI) (x : (ByteArray) × Unit) : evBody CC { call := X, loop := L } 16 (shsInj [(.cell .string)] x) = f16 X L x := by kernel_rfl

/-- hayrick/path.Join -/
def f17c0 (X : Task → M Value) (L : LoopI) (x : ((Option Addr × Nat × Nat)) × Unit) (v0_ : Int) : M (Value) :=
 M.bind (L (σ := (Int) × Unit) (ρ := (Unit) ⊕ (((ByteArray) × (Int) × Unit) ⊕ (Unit))) (fun s1_ =>
 M.ite (decide (s1_.1 < v0_))
 (M.guard (decide (0 ≤ s1_.1) && decide (s1_.1 < ((x.1.2.1 : Nat) : Int)))
 (M.deref x.1.1 fun a3_ =>
 M.load (.cell .string) 1 (a3_.add ((Int.toNat s1_.1) * 1)) fun (x4_ : ByteArray) =>
 M.callS (.one (.cell .bool)) (X (.call 49 [(.string x4_)])) fun (r5_ : Bool) =>
 M.ite (!r5_)
 (M.pure (.inr (.inr (.inl (st0, 31, ())))))
 (M.pure (.inl ((IntKind.i64.wrap (s1_.1 + 1)), ())))))
 (M.pure (.inr (.inl (()))))) (0, ())) <| M.sum (fun (j8_ : Unit) =>
 M.callS (.one (.cell .string)) (X (.call 50 [(.slice x.1.1 x.1.2.1 x.1.2.2)])) fun (r9_ : ByteArray) =>
 M.ite (decide (((r9_.size : Nat) : Int) > 256))
 (M.pure (.tuple ⟨[(.string st0), (.int .i64 30)]⟩))
 (M.ite (seq r9_ st0)
 (M.pure (.tuple ⟨[(.string st13), (.int .i64 0)]⟩))
 (M.pure (.tuple ⟨[(.string r9_), (.int .i64 0)]⟩)))) (M.sum (fun (j13_ : (ByteArray) × (Int) × Unit) =>
 M.pure (.tuple ⟨[(.string j13_.1), (.int .i64 j13_.2.1)]⟩)) (fun _ => M.stuck))
def f17 (X : Task → M Value) (L : LoopI) (x : ((Option Addr × Nat × Nat)) × Unit) : M Value :=
 f17c0 X L x ((x.1.2.1 : Nat) : Int)

theorem e17 (X : Task → M Value) (L : LoopI) (x : ((Option Addr × Nat × Nat)) × Unit) : evBody CC { call := X, loop := L } 17 (shsInj [(.cell .slice)] x) = f17 X L x := by kernel_rfl

/-- hayrick/path.Find -/
def f18c0 (X : Task → M Value) (L : LoopI) (x : (Option Addr) × (ByteArray) × Unit) (r2_ : ((Option Addr × Nat × Nat)) × (Int) × Unit) : M (Value) :=
 M.callS (.tuple [(.cell .slice), (.cell (.int .i64))]) (X (.call 20 [(.pointer x.1), (.slice r2_.1.1 r2_.1.2.1 r2_.1.2.2)])) fun (r4_ : ((Option Addr × Nat × Nat)) × (Int) × Unit) =>
 M.ite (!(r4_.2.1 == 0))
 (M.pure (.tuple ⟨[(.int .i64 0), (.int .i64 r4_.2.1)]⟩))
 (let v7_ : Int := IntKind.i64.wrap (((r4_.1.2.1 : Nat) : Int) - 1)
 M.guard (decide (0 ≤ v7_) && decide (v7_ < ((r4_.1.2.1 : Nat) : Int)))
 (M.deref r4_.1.1 fun a8_ =>
 M.load (.cell (.int .i64)) 1 (a8_.add ((Int.toNat v7_) * 1)) fun (x9_ : Int) =>
 M.pure (.tuple ⟨[(.int .i64 x9_), (.int .i64 0)]⟩)))
def f18c1 (X : Task → M Value) (L : LoopI) (x : (Option Addr) × (ByteArray) × Unit) : M (Value) :=
 M.join (fun (j0_ : (Bool) × Unit) =>
 M.ite j0_.1
 (M.pure (.tuple ⟨[(.int .i64 0), (.int .i64 2)]⟩))
 (M.callS (.tuple [(.cell .slice), (.cell (.int .i64))]) (X (.call 16 [(.string x.2.1)])) fun (r2_ : ((Option Addr × Nat × Nat)) × (Int) × Unit) =>
 M.ite (!(r2_.2.1 == 0))
 (M.pure (.tuple ⟨[(.int .i64 0), (.int .i64 r2_.2.1)]⟩))
 (f18c0 X L x r2_))) fun go1_ =>
 M.eqPtr x.1 none fun (q10_ : Bool) =>
 M.ite q10_
 (go1_ (true, ()))
 (M.callS (.one (.cell .ptr)) (X (.call 51 [(.pointer x.1)])) fun (r11_ : Option Addr) =>
 M.eqPtr r11_ none fun (q12_ : Bool) =>
 go1_ (q12_, ()))
def f18 (X : Task → M Value) (L : LoopI) (x : (Option Addr) × (ByteArray) × Unit) : M Value :=
 f18c1 X L x

theorem e18 (X : Task → M Value) (L : LoopI) (x : (Option Addr) × (ByteArray) × Unit) : evBody CC { call := X, loop := L } 18 (shsInj [(.cell .ptr), (.cell .string)] x) = f18 X L x := by kernel_rfl

/-- hayrick/path.Parent -/
def f19c0 (X : Task → M Value) (L : LoopI) (r2_ : ((Option Addr × Nat × Nat)) × (Int) × Unit) (v7_ : Int) (r9_ : ((Option Addr × Nat × Nat)) × (Int) × Unit) : M (Value) :=
 M.guard (decide (0 ≤ v7_) && decide (v7_ < ((r9_.1.2.1 : Nat) : Int)))
 (M.deref r9_.1.1 fun a15_ =>
 M.load (.cell (.int .i64)) 1 (a15_.add ((Int.toNat v7_) * 1)) fun (x16_ : Int) =>
 M.guard (decide (0 ≤ v7_) && decide (v7_ < ((r2_.1.2.1 : Nat) : Int)))
 (M.deref r2_.1.1 fun a17_ =>
 M.load (.cell .string) 1 (a17_.add ((Int.toNat v7_) * 1)) fun (x18_ : ByteArray) =>
 M.load (.cell .string) 1 (a17_.add ((Int.toNat v7_) * 1)) fun (x19_ : ByteArray) => cond (veqv (.string x19_) (.string x18_)) (M.pure (.tuple ⟨[(.int .i64 x16_), (.string x18_), (.int .i64 0)]⟩)) M.stuck))
def f19c1 (X : Task → M Value) (L : LoopI) (x : (Option Addr) × (ByteArray) × Unit) (r2_ : ((Option Addr × Nat × Nat)) × (Int) × Unit) (v7_ : Int) (r9_ : ((Option Addr × Nat × Nat)) × (Int) × Unit) (v10_ : Bool) : M (Value) :=
 M.ite v10_
 (M.pure (.tuple ⟨[(.int .i64 0), (.string st0), (.int .i64 r9_.2.1)]⟩))
 (M.guard (decide (0 ≤ v7_) && decide (v7_ < ((r9_.1.2.1 : Nat) : Int)))
 (M.deref r9_.1.1 fun a11_ =>
 M.load (.cell (.int .i64)) 1 (a11_.add ((Int.toNat v7_) * 1)) fun (x12_ : Int) =>
 M.callS (.tuple [(.cell (.int .i64)), (.cell (.int .i64))]) (X (.call 25 [(.pointer x.1), (.int .i64 x12_)])) fun (r13_ : (Int) × (Int) × Unit) =>
 M.ite (!(r13_.2.1 == 0))
 (M.pure (.tuple ⟨[(.int .i64 0), (.string st0), (.int .i64 r13_.2.1)]⟩))
 (f19c0 X L r2_ v7_ r9_)))
def f19c2 (X : Task → M Value) (L : LoopI) (x : (Option Addr) × (ByteArray) × Unit) (r2_ : ((Option Addr × Nat × Nat)) × (Int) × Unit) : M (Value) :=
 M.join (fun (j3_ : (Int) × Unit) =>
 M.ite (!(j3_.1 == 0))
 (M.pure (.tuple ⟨[(.int .i64 0), (.string st0), (.int .i64 j3_.1)]⟩))
 (let v7_ : Int := IntKind.i64.wrap (((r2_.1.2.1 : Nat) : Int) - 1)
 M.guard (decide (0 ≤ v7_) && decide (v7_ ≤ ((r2_.1.2.2 : Nat) : Int)))
 (M.callS (.tuple [(.cell .slice), (.cell (.int .i64))]) (X (.call 20 [(.pointer x.1), (.slice (r2_.1.1.map (·.add (0 * 1))) ((Int.toNat v7_) - 0) (r2_.1.2.2 - 0))])) fun (r9_ : ((Option Addr × Nat × Nat)) × (Int) × Unit) =>
 f19c1 X L x r2_ v7_ r9_ (!(r9_.2.1 == 0))))) fun go4_ =>
 M.join (fun (j20_ : (Bool) × Unit) =>
 M.ite j20_.1
 (go4_ (30, ()))
 (go4_ (r2_.2.1, ()))) fun go21_ =>
 M.ite (r2_.2.1 == 0)
 (go21_ ((((r2_.1.2.1 : Nat) : Int) == 0), ()))
 (go21_ (false, ()))
def f19c3 (X : Task → M Value) (L : LoopI) (x : (Option Addr) × (ByteArray) × Unit) : M (Value) :=
 M.join (fun (j0_ : (Bool) × Unit) =>
 M.ite j0_.1
 (M.pure (.tuple ⟨[(.int .i64 0), (.string st0), (.int .i64 2)]⟩))
 (M.callS (.tuple [(.cell .slice), (.cell (.int .i64))]) (X (.call 16 [(.string x.2.1)])) fun (r2_ : ((Option Addr × Nat × Nat)) × (Int) × Unit) =>
 f19c2 X L x r2_)) fun go1_ =>
 M.eqPtr x.1 none fun (q25_ : Bool) =>
 M.ite q25_
 (go1_ (true, ()))
 (M.callS (.one (.cell .ptr)) (X (.call 51 [(.pointer x.1)])) fun (r26_ : Option Addr) =>
 M.eqPtr r26_ none fun (q27_ : Bool) =>
 go1_ (q27_, ()))
def f19 (X : Task → M Value) (L : LoopI) (x : (Option Addr) × (ByteArray) × Unit) : M Value :=
 f19c3 X L x

theorem e19 (X : Task → M Value) (L : LoopI) (x : (Option Addr) × (ByteArray) × Unit) : evBody CC { call := X, loop := L } 19 (shsInj [(.cell .ptr), (.cell .string)] x) = f19 X L x := by kernel_rfl

/-- hayrick/path.Walk -/
def f20c0 (X : Task → M Value) (L : LoopI) (x : (Option Addr) × ((Option Addr × Nat × Nat)) × Unit) (s4_ : ((Option Addr × Nat × Nat)) × (Int) × Unit) (x7_ : ByteArray) (x9_ : Int) : M ((((Option Addr × Nat × Nat)) × (Int) × Unit) ⊕ ((((Option Addr × Nat × Nat)) × Unit) ⊕ ((((Option Addr × Nat × Nat)) × (Int) × Unit) ⊕ (Unit)))) :=
 M.callS (.tuple [(.cell (.int .i64)), (.cell (.int .i64))]) (X (.call 26 [(.pointer x.1), (.int .i64 x9_), (.string x7_)])) fun (r10_ : (Int) × (Int) × Unit) =>
 M.ite (!(r10_.2.1 == 0))
 (M.pure (.inr (.inr (.inl ((none, 0, 0), r10_.2.1, ())))))
 (M.new (.cells (Row.ofList [(.int .i64 r10_.1)]) 3 false (0, 0) false) fun b12_ =>
 M.append 3 1 8 s4_.1.1 s4_.1.2.1 s4_.1.2.2 (.slice (some (Addr.mk b12_ 0 none)) 1 1) fun a13_ n14_ c15_ =>
 M.pure (.inl ((a13_, n14_, c15_), (IntKind.i64.wrap (s4_.2.1 + 1)), ())))
def f20c1 (X : Task → M Value) (L : LoopI) (x : (Option Addr) × ((Option Addr × Nat × Nat)) × Unit) (b2_ : Nat) (v3_ : Int) : M (Value) :=
 M.bind (L (σ := ((Option Addr × Nat × Nat)) × (Int) × Unit) (ρ := (((Option Addr × Nat × Nat)) × Unit) ⊕ ((((Option Addr × Nat × Nat)) × (Int) × Unit) ⊕ (Unit))) (fun s4_ =>
 M.ite (decide (s4_.2.1 < v3_))
 (M.guard (decide (0 ≤ s4_.2.1) && decide (s4_.2.1 < ((x.2.1.2.1 : Nat) : Int)))
 (M.deref x.2.1.1 fun a6_ =>
 M.load (.cell .string) 1 (a6_.add ((Int.toNat s4_.2.1) * 1)) fun (x7_ : ByteArray) =>
 M.guard (decide (0 ≤ s4_.2.1) && decide (s4_.2.1 < ((s4_.1.2.1 : Nat) : Int)))
 (M.deref s4_.1.1 fun a8_ =>
 M.load (.cell (.int .i64)) 1 (a8_.add ((Int.toNat s4_.2.1) * 1)) fun (x9_ : Int) =>
 f20c0 X L x s4_ x7_ x9_)))
 (M.pure (.inr (.inl (s4_.1, ()))))) (((some (Addr.mk b2_ 0 none)), 1, 1), 0, ())) <| M.sum (fun (j17_ : ((Option Addr × Nat × Nat)) × Unit) =>
 M.pure (.tuple ⟨[(.slice j17_.1.1 j17_.1.2.1 j17_.1.2.2), (.int .i64 0)]⟩)) (M.sum (fun (j18_ : ((Option Addr × Nat × Nat)) × (Int) × Unit) =>
 M.pure (.tuple ⟨[(.slice j18_.1.1 j18_.1.2.1 j18_.1.2.2), (.int .i64 j18_.2.1)]⟩)) (fun _ => M.stuck))
def f20 (X : Task → M Value) (L : LoopI) (x : (Option Addr) × ((Option Addr × Nat × Nat)) × Unit) : M Value :=
 M.join (fun (j0_ : (Bool) × Unit) =>
 M.ite j0_.1
 (M.pure (.tuple ⟨[(.slice none 0 0), (.int .i64 2)]⟩))
 (M.new (.cells (Row.ofList [(.int .i64 1)]) 3 false (0, 0) false) fun b2_ =>
 f20c1 X L x b2_ ((x.2.1.2.1 : Nat) : Int))) fun go1_ =>
 M.eqPtr x.1 none fun (q19_ : Bool) =>
 M.ite q19_
 (go1_ (true, ()))
 (M.callS (.one (.cell .ptr)) (X (.call 51 [(.pointer x.1)])) fun (r20_ : Option Addr) =>
 M.eqPtr r20_ none fun (q21_ : Bool) =>
 go1_ (q21_, ()))

theorem e20 (X : Task → M Value) (L : LoopI) (x : (Option Addr) × ((Option Addr × Nat × Nat)) × Unit) : evBody CC { call := X, loop := L } 20 (shsInj [(.cell .ptr), (.cell .slice)] x) = f20 X L x := by kernel_rfl

/-- hayrick/path.Under -/
def f22c0 (X : Task → M Value) (L : LoopI) (r0_ : ((Option Addr × Nat × Nat)) × (Int) × Unit) (r1_ : ((Option Addr × Nat × Nat)) × (Int) × Unit) : M (Value) :=
 M.join (fun (j2_ : (Bool) × Unit) =>
 M.pure (.bool j2_.1)) fun go3_ =>
 M.ite (r0_.2.1 == 0)
 (M.ite (r1_.2.1 == 0)
 (M.ite (decide (((r0_.1.2.1 : Nat) : Int) < ((r1_.1.2.1 : Nat) : Int)))
 (let v9_ : Int := ((r0_.1.2.1 : Nat) : Int)
 M.guard (decide (0 ≤ v9_) && decide (v9_ ≤ ((r1_.1.2.2 : Nat) : Int)))
 (M.callS (.one (.cell .bool)) (X (.call 55 [(.slice r0_.1.1 r0_.1.2.1 r0_.1.2.2), (.slice (r1_.1.1.map (·.add (0 * 1))) ((Int.toNat v9_) - 0) (r1_.1.2.2 - 0))])) fun (r11_ : Bool) =>
 go3_ (r11_, ())))
 (go3_ (false, ())))
 (go3_ (false, ())))
 (go3_ (false, ()))
def f22 (X : Task → M Value) (L : LoopI) (x : (ByteArray) × (ByteArray) × Unit) : M Value :=
 M.callS (.tuple [(.cell .slice), (.cell (.int .i64))]) (X (.call 16 [(.string x.1)])) fun (r0_ : ((Option Addr × Nat × Nat)) × (Int) × Unit) =>
 M.callS (.tuple [(.cell .slice), (.cell (.int .i64))]) (X (.call 16 [(.string x.2.1)])) fun (r1_ : ((Option Addr × Nat × Nat)) × (Int) × Unit) =>
 f22c0 X L r0_ r1_

theorem e22 (X : Task → M Value) (L : LoopI) (x : (ByteArray) × (ByteArray) × Unit) : evBody CC { call := X, loop := L } 22 (shsInj [(.cell .string), (.cell .string)] x) = f22 X L x := by kernel_rfl

/-- hayrick/hayricklaw22.wakes -/
def f23c0 (X : Task → M Value) (L : LoopI) (r12_ : ((Option Addr × Nat × Nat)) × (Int) × Unit) (r13_ : (Int) × (Int) × Unit) (r14_ : (Int) × (Int) × Unit) (r15_ : (Int) × (ByteArray) × (Int) × Unit) (go17_ : ((Bool) × Unit) → M (Value)) (v18_ : Bool) : M (Value) :=
 M.ite v18_
 (M.ite (((r12_.1.2.1 : Nat) : Int) == 3)
 (M.guard (decide (0 ≤ 2) && decide (2 < ((r12_.1.2.1 : Nat) : Int)))
 (M.deref r12_.1.1 fun a21_ =>
 M.load (.cell (.int .i64)) 1 (a21_.add ((Int.toNat 2) * 1)) fun (x22_ : Int) =>
 M.ite (x22_ == 3)
 (M.ite (r13_.2.1 == 34)
 (M.ite (r14_.2.1 == 32)
 (M.ite (r15_.1 == 2)
 (M.ite (seq r15_.2.1 st11)
 (go17_ ((r15_.2.2.1 == 0), ()))
 (go17_ (false, ())))
 (go17_ (false, ())))
 (go17_ (false, ())))
 (go17_ (false, ())))
 (go17_ (false, ()))))
 (go17_ (false, ())))
 (go17_ (false, ()))
def f23c1 (X : Task → M Value) (L : LoopI) (r10_ : (Option Addr) × (Option Addr) × Unit) (r12_ : ((Option Addr × Nat × Nat)) × (Int) × Unit) : M (Value) :=
 M.callS (.tuple [(.cell (.int .i64)), (.cell (.int .i64))]) (X (.call 18 [(.pointer r10_.1), (.string st17)])) fun (r13_ : (Int) × (Int) × Unit) =>
 M.callS (.tuple [(.cell (.int .i64)), (.cell (.int .i64))]) (X (.call 18 [(.pointer r10_.1), (.string st18)])) fun (r14_ : (Int) × (Int) × Unit) =>
 M.callS (.tuple [(.cell (.int .i64)), (.cell .string), (.cell (.int .i64))]) (X (.call 19 [(.pointer r10_.1), (.string st19)])) fun (r15_ : (Int) × (ByteArray) × (Int) × Unit) =>
 M.join (fun (j16_ : (Bool) × Unit) =>
 M.pure (.bool j16_.1)) fun go17_ =>
 f23c0 X L r12_ r13_ r14_ r15_ go17_ (r12_.2.1 == 0)
def f23c2 (X : Task → M Value) (L : LoopI) (r0_ : ((Option Addr × Nat × Nat)) × (Int) × Unit) (b7_ : Nat) (b8_ : Nat) : M (Value) :=
 M.new (.cells (Row.ofList [(.int .i64 1), (.bool false), (.slice (some (Addr.mk b7_ 0 none)) 1 1), (.int .i64 2), (.bool false), (.slice (some (Addr.mk b8_ 0 none)) 1 1), (.int .i64 3), (.bool true), (.slice none 0 0)]) 114 false (0, 0) false) fun b9_ =>
 M.callS (.tuple [(.cell .ptr), (.cell .ptr)]) (X (.call 21 [(.slice (some (Addr.mk b9_ 0 none)) 3 3)])) fun (r10_ : (Option Addr) × (Option Addr) × Unit) =>
 M.eqPtr r10_.1 none fun (q11_ : Bool) =>
 M.ite q11_
 (M.pure (.bool false))
 (M.callS (.tuple [(.cell .slice), (.cell (.int .i64))]) (X (.call 20 [(.pointer r10_.1), (.slice r0_.1.1 r0_.1.2.1 r0_.1.2.2)])) fun (r12_ : ((Option Addr × Nat × Nat)) × (Int) × Unit) =>
 f23c1 X L r10_ r12_)
def f23c3 (X : Task → M Value) (L : LoopI) (r2_ : (ByteArray) × (Int) × Unit) (r3_ : ((Option Addr × Nat × Nat)) × (Int) × Unit) (r4_ : ((Option Addr × Nat × Nat)) × (Int) × Unit) (go6_ : ((Bool) × Unit) → M (Value)) (a32_ : Addr) : M (Value) :=
 M.load (.cell .string) 1 (a32_.add ((Int.toNat 1) * 1)) fun (x33_ : ByteArray) =>
 M.ite (!(seq x33_ st15))
 (go6_ (true, ()))
 (M.ite (!(r2_.2.1 == 0))
 (go6_ (true, ()))
 (M.ite (!(seq r2_.1 st14))
 (go6_ (true, ()))
 (M.ite (!(r3_.2.1 == 30))
 (go6_ (true, ()))
 (M.ite (!(r4_.2.1 == 31))
 (go6_ (true, ()))
 (M.callS (.one (.cell .bool)) (X (.call 22 [(.string st12), (.string st14)])) fun (r39_ : Bool) =>
 M.ite (!r39_)
 (go6_ (true, ()))
 (M.callS (.one (.cell .bool)) (X (.call 22 [(.string st12), (.string st20)])) fun (r41_ : Bool) =>
 go6_ (r41_, ())))))))
def f23c4 (X : Task → M Value) (L : LoopI) (r0_ : ((Option Addr × Nat × Nat)) × (Int) × Unit) (r2_ : (ByteArray) × (Int) × Unit) (r3_ : ((Option Addr × Nat × Nat)) × (Int) × Unit) (r4_ : ((Option Addr × Nat × Nat)) × (Int) × Unit) : M (Value) :=
 M.join (fun (j5_ : (Bool) × Unit) =>
 M.ite j5_.1
 (M.pure (.bool false))
 (M.new (.cells (Row.ofList [(.int .i64 2), (.string st1)]) 78 false (0, 0) false) fun b7_ =>
 M.new (.cells (Row.ofList [(.int .i64 3), (.string st15)]) 78 false (0, 0) false) fun b8_ =>
 f23c2 X L r0_ b7_ b8_)) fun go6_ =>
 M.ite (!(r0_.2.1 == 0))
 (go6_ (true, ()))
 (M.ite (!(((r0_.1.2.1 : Nat) : Int) == 2))
 (go6_ (true, ()))
 (M.guard (decide (0 ≤ 1) && decide (1 < ((r0_.1.2.1 : Nat) : Int)))
 (M.deref r0_.1.1 fun a32_ =>
 f23c3 X L r2_ r3_ r4_ go6_ a32_)))
def f23c5 (X : Task → M Value) (L : LoopI) (r0_ : ((Option Addr × Nat × Nat)) × (Int) × Unit) : M (Value) :=
 M.new (.cells (Row.ofList [(.string st1), (.string st15)]) 9 false (0, 0) false) fun b1_ =>
 M.callS (.tuple [(.cell .string), (.cell (.int .i64))]) (X (.call 17 [(.slice (some (Addr.mk b1_ 0 none)) 2 2)])) fun (r2_ : (ByteArray) × (Int) × Unit) =>
 M.callS (.tuple [(.cell .slice), (.cell (.int .i64))]) (X (.call 16 [(.string st4)])) fun (r3_ : ((Option Addr × Nat × Nat)) × (Int) × Unit) =>
 M.callS (.tuple [(.cell .slice), (.cell (.int .i64))]) (X (.call 16 [(.string st16)])) fun (r4_ : ((Option Addr × Nat × Nat)) × (Int) × Unit) =>
 f23c4 X L r0_ r2_ r3_ r4_
def f23 (X : Task → M Value) (L : LoopI) (x : Unit) : M Value :=
 M.callS (.tuple [(.cell .slice), (.cell (.int .i64))]) (X (.call 16 [(.string st14)])) fun (r0_ : ((Option Addr × Nat × Nat)) × (Int) × Unit) =>
 f23c5 X L r0_

theorem e23 (X : Task → M Value) (L : LoopI) (x : Unit) : evBody CC { call := X, loop := L } 23 (shsInj [] x) = f23 X L x := by kernel_rfl

/-- hayrick/dirs.Count -/
def f25c0 (X : Task → M Value) (L : LoopI) (r0_ : (Int × Int × Int × Int × Int × Int × Int × Int × Int × Int × Int × Unit) × (Int) × Unit) (b1_ : Nat) : M (Value) :=
 M.store (Addr.mk b1_ 0 none) [(.int .i64 r0_.1.1), (.int .i64 r0_.1.2.1), (.int .i64 r0_.1.2.2.1), (.int .i64 r0_.1.2.2.2.1), (.int .u32 r0_.1.2.2.2.2.1), (.int .u32 r0_.1.2.2.2.2.2.1), (.int .u32 r0_.1.2.2.2.2.2.2.1), (.int .u32 r0_.1.2.2.2.2.2.2.2.1), (.int .u32 r0_.1.2.2.2.2.2.2.2.2.1), (.int .u32 r0_.1.2.2.2.2.2.2.2.2.2.1), (.int .u32 r0_.1.2.2.2.2.2.2.2.2.2.2.1)]
 (M.ite (!(r0_.2.1 == 0))
 (M.pure (.tuple ⟨[(.int .i64 0), (.int .i64 r0_.2.1)]⟩))
 (M.load (.cell (.int .i64)) 1 ((Addr.mk b1_ 0 none).add 2) fun (x3_ : Int) =>
 M.guard (!(decide (28 = 0)))
 (M.pure (.tuple ⟨[(.int .i64 (IntKind.i64.wrap ((x3_ : Int).tdiv 28))), (.int .i64 0)]⟩))))
def f25c1 (X : Task → M Value) (L : LoopI) (x : (Option Addr) × (Int) × Unit) : M (Value) :=
 M.callS (.tuple [(.agg [(.int .i64), (.int .i64), (.int .i64), (.int .i64), (.int .u32), (.int .u32), (.int .u32), (.int .u32), (.int .u32), (.int .u32), (.int .u32)]), (.cell (.int .i64))]) (X (.call 58 [(.pointer x.1), (.int .i64 x.2.1)])) fun (r0_ : (Int × Int × Int × Int × Int × Int × Int × Int × Int × Int × Int × Unit) × (Int) × Unit) =>
 M.new (.cells (Row.ofList [(.int .i64 0), (.int .i64 0), (.int .i64 0), (.int .i64 0), (.int .u32 0), (.int .u32 0), (.int .u32 0), (.int .u32 0), (.int .u32 0), (.int .u32 0), (.int .u32 0)]) 117 false (0, 0) false) fun b1_ =>
 f25c0 X L r0_ b1_
def f25 (X : Task → M Value) (L : LoopI) (x : (Option Addr) × (Int) × Unit) : M Value :=
 f25c1 X L x

theorem e25 (X : Task → M Value) (L : LoopI) (x : (Option Addr) × (Int) × Unit) : evBody CC { call := X, loop := L } 25 (shsInj [(.cell .ptr), (.cell (.int .i64))] x) = f25 X L x := by kernel_rfl

/-- hayrick/dirs.Lookup -/
def f26 (X : Task → M Value) (L : LoopI) (x : (Option Addr) × (Int) × (ByteArray) × Unit) : M Value :=
 M.new (.cells (Row.ofList [(.string x.2.2.1)]) 9 false (0, 0) false) fun b0_ =>
 M.callS (.tuple [(.cell (.int .i64)), (.cell (.int .i64))]) (X (.call 59 [(.pointer x.1), (.int .i64 x.2.1), (.func (.func 60) ⟨[]⟩ ⟨[(.pointer (some (Addr.mk b0_ 0 none)))]⟩)])) fun (r1_ : (Int) × (Int) × Unit) =>
 M.pure (.tuple ⟨[(.int .i64 r1_.1), (.int .i64 r1_.2.1)]⟩)

theorem e26 (X : Task → M Value) (L : LoopI) (x : (Option Addr) × (Int) × (ByteArray) × Unit) : evBody CC { call := X, loop := L } 26 (shsInj [(.cell .ptr), (.cell (.int .i64)), (.cell .string)] x) = f26 X L x := by kernel_rfl

/-- hayrick/dirs.Save -/
def f29c0 (X : Task → M Value) (L : LoopI) (x : (Option Addr) × (Int) × ((Option Addr × Nat × Nat)) × (Bool) × Unit) : M (Value) :=
 M.callS (.tuple [(.cell .slice), (.cell (.int .i64))]) (X (.call 66 [(.slice x.2.2.1.1 x.2.2.1.2.1 x.2.2.1.2.2)])) fun (r2_ : ((Option Addr × Nat × Nat)) × (Int) × Unit) =>
 M.ite (!(r2_.2.1 == 0))
 (M.pure (.int .i64 r2_.2.1))
 (M.callS (.one (.cell (.int .i64))) (X (.call 52 [(.pointer x.1), (.agg ⟨[(.int .i64 x.2.1), (.int .i64 2), (.int .i64 0), (.int .i64 1), (.int .u32 0), (.int .u32 0), (.int .u32 0), (.int .u32 0), (.int .u32 0), (.int .u32 0), (.int .u32 0)]⟩), (.slice r2_.1.1 r2_.1.2.1 r2_.1.2.2), (.bool x.2.2.2.1)])) fun (r4_ : Int) =>
 M.pure (.int .i64 r4_))
def f29 (X : Task → M Value) (L : LoopI) (x : (Option Addr) × (Int) × ((Option Addr × Nat × Nat)) × (Bool) × Unit) : M Value :=
 M.join (fun (j0_ : (Bool) × Unit) =>
 M.ite j0_.1
 (M.pure (.int .i64 2))
 (f29c0 X L x)) fun go1_ =>
 M.eqPtr x.1 none fun (q5_ : Bool) =>
 M.ite q5_
 (go1_ (true, ()))
 (M.callS (.one (.cell .ptr)) (X (.call 51 [(.pointer x.1)])) fun (r6_ : Option Addr) =>
 M.eqPtr r6_ none fun (q7_ : Bool) =>
 go1_ (q7_, ()))

theorem e29 (X : Task → M Value) (L : LoopI) (x : (Option Addr) × (Int) × ((Option Addr × Nat × Nat)) × (Bool) × Unit) : evBody CC { call := X, loop := L } 29 (shsInj [(.cell .ptr), (.cell (.int .i64)), (.cell .slice), (.cell .bool)] x) = f29 X L x := by kernel_rfl

/-- hayrick/hayricklaw18.Made -/
def f31c0 (X : Task → M Value) (L : LoopI) (r0_ : (Option Addr) × (Option Addr) × (Option Addr) × (Option Addr) × Unit) (r2_ : (Option Addr) × (Int) × Unit) : M (Value) :=
 M.new (.cells (Row.ofList [(.pointer r0_.2.1), (.int .u32 0), (.int .u32 0), (.int .u32 0), (.int .u32 0), (.int .u32 0), (.int .u32 0), (.int .u32 0), (.int .u32 0), (.int .u32 0), (.int .u32 0), (.int .u32 0), (.int .u32 0), (.int .u32 0), (.int .u32 0), (.int .u32 0), (.int .u32 0), (.int .u32 0), (.int .u32 0), (.int .u32 0), (.int .u32 0), (.int .u32 0), (.int .u32 0), (.int .u32 0), (.int .u32 0), (.int .u32 0), (.int .u32 0), (.int .u32 0), (.int .u32 0), (.int .u32 0), (.int .u32 0), (.int .u32 0), (.int .u32 0), (.int .u32 0), (.int .u32 0), (.int .u32 0), (.int .u32 0), (.int .u32 0), (.int .u32 0), (.int .u32 0), (.int .u32 0), (.int .u32 0), (.int .u32 0), (.int .u32 0), (.int .u32 0), (.int .u32 0), (.int .u32 0), (.int .u32 0), (.int .u32 0), (.int .u32 0), (.int .u32 0), (.int .u32 0), (.int .u32 0), (.int .u32 0), (.int .u32 0), (.int .u32 0), (.int .u32 0), (.int .u32 0), (.int .u32 0), (.int .u32 0), (.int .u32 0), (.int .u32 0), (.int .u32 0), (.int .u32 0), (.int .u32 0)]) 142 false (0, 0) false) fun b4_ =>
 M.pure (.tuple ⟨[(.pointer r2_.1), (.pointer (some (Addr.mk b4_ 0 none))), (.pointer r0_.2.2.1), (.pointer r0_.2.1)]⟩)
def f31c1 (X : Task → M Value) (L : LoopI) (r0_ : (Option Addr) × (Option Addr) × (Option Addr) × (Option Addr) × Unit) : M (Value) :=
 M.callS (.tuple [(.cell .ptr), (.cell (.int .i64))]) (X (.call 70 [(.pointer r0_.1), (.agg ⟨[(.int .u32 0), (.int .u32 0), (.int .u32 0), (.int .u32 0), (.int .u32 0), (.int .u32 0), (.int .u32 0), (.int .u32 0), (.int .u32 0), (.int .u32 0), (.int .u32 0), (.int .u32 0), (.int .u32 0), (.int .u32 0), (.int .u32 0), (.int .u32 0), (.int .u32 0), (.int .u32 0), (.int .u32 0), (.int .u32 0), (.int .u32 0), (.int .u32 0), (.int .u32 0), (.int .u32 0), (.int .u32 0), (.int .u32 0), (.int .u32 0), (.int .u32 0), (.int .u32 0), (.int .u32 0), (.int .u32 0), (.int .u32 0), (.int .u32 0), (.int .u32 0), (.int .u32 0), (.int .u32 0), (.int .u32 0), (.int .u32 0), (.int .u32 0), (.int .u32 0), (.int .u32 0), (.int .u32 0), (.int .u32 0), (.int .u32 0), (.int .u32 0), (.int .u32 0), (.int .u32 0), (.int .u32 0), (.int .u32 0), (.int .u32 0), (.int .u32 0), (.int .u32 0), (.int .u32 0), (.int .u32 0), (.int .u32 0), (.int .u32 0), (.int .u32 0), (.int .u32 0), (.int .u32 0), (.int .u32 0), (.int .u32 0), (.int .u32 0), (.int .u32 0), (.int .u32 0)]⟩)])) fun (r2_ : (Option Addr) × (Int) × Unit) =>
 M.ite (!(r2_.2.1 == 0))
 (M.pure (.tuple ⟨[(.pointer none), (.pointer none), (.pointer none), (.pointer none)]⟩))
 (f31c0 X L r0_ r2_)
def f31 (X : Task → M Value) (L : LoopI) (x : (Int) × (Int) × (Int) × Unit) : M Value :=
 M.callS (.tuple [(.cell .ptr), (.cell .ptr), (.cell .ptr), (.cell .ptr)]) (X (.call 69 [(.int .i64 x.1), (.int .i64 x.2.1), (.int .i64 x.2.2.1)])) fun (r0_ : (Option Addr) × (Option Addr) × (Option Addr) × (Option Addr) × Unit) =>
 M.eqPtr r0_.1 none fun (q1_ : Bool) =>
 M.ite q1_
 (M.pure (.tuple ⟨[(.pointer none), (.pointer none), (.pointer none), (.pointer none)]⟩))
 (f31c1 X L r0_)

theorem e31 (X : Task → M Value) (L : LoopI) (x : (Int) × (Int) × (Int) × Unit) : evBody CC { call := X, loop := L } 31 (shsInj [(.cell (.int .i64)), (.cell (.int .i64)), (.cell (.int .i64))] x) = f31 X L x := by kernel_rfl

/-- strings.HasPrefix -/
def f46 (X : Task → M Value) (L : LoopI) (x : (ByteArray) × (ByteArray) × Unit) : M Value :=
 M.callS (.one (.cell .bool)) (X (.call 96 [(.string x.1), (.string x.2.1)])) fun (r0_ : Bool) =>
 M.pure (.bool r0_)

theorem e46 (X : Task → M Value) (L : LoopI) (x : (ByteArray) × (ByteArray) × Unit) : evBody CC { call := X, loop := L } 46 (shsInj [(.cell .string), (.cell .string)] x) = f46 X L x := by kernel_rfl

/-- hayrick/path.cut -/
def f47c0 (X : Task → M Value) (L : LoopI) (x : (ByteArray) × Unit) (s1_ : ((Option Addr × Nat × Nat)) × (Int) × Unit) (i2_ : Int) (c3_ : Int) (go5_ : (((Option Addr × Nat × Nat)) × (Int) × Unit) → M ((((Option Addr × Nat × Nat)) × (Int) × Unit) ⊕ ((((Option Addr × Nat × Nat)) × (Int) × Unit) ⊕ (Unit)))) : M ((((Option Addr × Nat × Nat)) × (Int) × Unit) ⊕ ((((Option Addr × Nat × Nat)) × (Int) × Unit) ⊕ (Unit))) :=
 M.ite (c3_ == 47)
 (M.guard (decide (0 ≤ i2_) && decide (i2_ ≤ ((x.1.size : Nat) : Int)))
 (let v7_ : Nat := (Int.toNat i2_)
 M.guard (decide (0 ≤ s1_.2.1) && decide (s1_.2.1 ≤ ((v7_ : Nat) : Int)))
 (M.new (.cells (Row.ofList [(.string (x.1.extract (Int.toNat s1_.2.1) v7_))]) 9 false (0, 0) false) fun b10_ =>
 M.append 9 1 16 s1_.1.1 s1_.1.2.1 s1_.1.2.2 (.slice (some (Addr.mk b10_ 0 none)) 1 1) fun a11_ n12_ c13_ =>
 go5_ ((a11_, n12_, c13_), (IntKind.i64.wrap (i2_ + 1)), ()))))
 (go5_ (s1_.1, s1_.2.1, ()))
def f47c1 (X : Task → M Value) (L : LoopI) (x : (ByteArray) × Unit) (b0_ : Nat) : M (Value) :=
 M.bind (L (σ := ((Option Addr × Nat × Nat)) × (Int) × Unit) (ρ := (((Option Addr × Nat × Nat)) × (Int) × Unit) ⊕ (Unit)) (fun s1_ =>
 M.next b0_
 (M.pure (.inr (.inl (s1_.1, s1_.2.1, ())))) fun i2_ c3_ =>
 M.join (fun (j4_ : ((Option Addr × Nat × Nat)) × (Int) × Unit) =>
 M.pure (.inl (j4_.1, j4_.2.1, ()))) fun go5_ =>
 f47c0 X L x s1_ i2_ c3_ go5_) ((none, 0, 0), 0, ())) <| M.sum (fun (j15_ : ((Option Addr × Nat × Nat)) × (Int) × Unit) =>
 M.guard (decide (0 ≤ j15_.2.1) && decide (j15_.2.1 ≤ ((x.1.size : Nat) : Int)))
 (M.new (.cells (Row.ofList [(.string (x.1.extract (Int.toNat j15_.2.1) x.1.size))]) 9 false (0, 0) false) fun b18_ =>
 M.append 9 1 16 j15_.1.1 j15_.1.2.1 j15_.1.2.2 (.slice (some (Addr.mk b18_ 0 none)) 1 1) fun a19_ n20_ c21_ =>
 M.pure (.slice a19_ n20_ c21_))) (fun _ => M.stuck)
def f47 (X : Task → M Value) (L : LoopI) (x : (ByteArray) × Unit) : M Value :=
 M.new (.iter x.1 0) fun b0_ =>
 f47c1 X L x b0_

theorem e47 (X : Task → M Value) (L : LoopI) (x : (ByteArray) × Unit) : evBody CC { call := X, loop := L } 47 (shsInj [(.cell .string)] x) = f47 X L x := by kernel_rfl

/-- slices.Contains[[]string,string] -/
def f48 (X : Task → M Value) (L : LoopI) (x : ((Option Addr × Nat × Nat)) × (ByteArray) × Unit) : M Value :=
 M.callS (.one (.cell (.int .i64))) (X (.call 97 [(.slice x.1.1 x.1.2.1 x.1.2.2), (.string x.2.1)])) fun (r0_ : Int) =>
 M.pure (.bool (decide (r0_ ≥ 0)))

theorem e48 (X : Task → M Value) (L : LoopI) (x : ((Option Addr × Nat × Nat)) × (ByteArray) × Unit) : evBody CC { call := X, loop := L } 48 (shsInj [(.cell .slice), (.cell .string)] x) = f48 X L x := by kernel_rfl

/-- hayrick/names.Valid -/
def f49c0 (X : Task → M Value) (L : LoopI) (b2_ : Nat) : M (Value) :=
 M.bind (L (σ := Unit) (ρ := (Unit) ⊕ (((Bool) × Unit) ⊕ (Unit))) (fun s3_ =>
 M.next b2_
 (M.pure (.inr (.inl (())))) fun i4_ c5_ =>
 M.join (fun (j6_ : (Bool) × Unit) =>
 M.ite j6_.1
 (M.pure (.inr (.inr (.inl (false, ())))))
 (M.pure (.inl (())))) fun go7_ =>
 M.ite (c5_ == 47)
 (go7_ (true, ()))
 (M.ite (decide (c5_ < 32))
 (go7_ (true, ()))
 (go7_ ((c5_ == 127), ())))) (())) <| M.sum (fun (j11_ : Unit) =>
 M.pure (.bool true)) (M.sum (fun (j12_ : (Bool) × Unit) =>
 M.pure (.bool j12_.1)) (fun _ => M.stuck))
def f49 (X : Task → M Value) (L : LoopI) (x : (ByteArray) × Unit) : M Value :=
 M.join (fun (j0_ : (Bool) × Unit) =>
 M.ite j0_.1
 (M.pure (.bool false))
 (M.new (.iter x.1 0) fun b2_ =>
 f49c0 X L b2_)) fun go1_ =>
 M.ite (decide (((x.1.size : Nat) : Int) < 1))
 (go1_ (true, ()))
 (M.ite (decide (((x.1.size : Nat) : Int) > 24))
 (go1_ (true, ()))
 (M.callS (.one (.cell .bool)) (X (.call 98 [(.string x.1)])) fun (r17_ : Bool) =>
 M.ite (!r17_)
 (go1_ (true, ()))
 (M.ite (seq x.1 st21)
 (go1_ (true, ()))
 (go1_ ((seq x.1 st22), ())))))

theorem e49 (X : Task → M Value) (L : LoopI) (x : (ByteArray) × Unit) : evBody CC { call := X, loop := L } 49 (shsInj [(.cell .string)] x) = f49 X L x := by kernel_rfl

/-- hayrick/path.written -/
def f50c0 (X : Task → M Value) (L : LoopI) (x : ((Option Addr × Nat × Nat)) × Unit) (b0_ : Nat) (s2_ : (Int) × Unit) (v3_ : Bool) : M (((Int) × Unit) ⊕ ((Unit) ⊕ (Unit))) :=
 M.ite v3_
 (M.guard (decide (0 ≤ s2_.1) && decide (s2_.1 < ((x.1.2.1 : Nat) : Int)))
 (M.deref x.1.1 fun a4_ =>
 M.load (.cell .string) 1 (a4_.add ((Int.toNat s2_.1) * 1)) fun (x5_ : ByteArray) =>
 M.guard (Nat.ble (st13.size + x5_.size) 9223372036854775807)
 (M.callS (.tuple [(.cell (.int .i64)), (.cell .val)]) (X (.call 99 [(.pointer (some (Addr.mk b0_ 0 none))), (.string (st13 ++ x5_))])) fun (r7_ : (Int) × (Value) × Unit) =>
 M.pure (.inl ((IntKind.i64.wrap (s2_.1 + 1)), ())))))
 (M.pure (.inr (.inl (()))))
def f50 (X : Task → M Value) (L : LoopI) (x : ((Option Addr × Nat × Nat)) × Unit) : M Value :=
 M.new (.cells (Row.ofList [(.pointer none), (.slice none 0 0)]) 173 false (0, 0) false) fun b0_ =>
 M.bind (L (σ := (Int) × Unit) (ρ := (Unit) ⊕ (Unit)) (fun s2_ =>
 f50c0 X L x b0_ s2_ (decide (s2_.1 < ((x.1.2.1 : Nat) : Int)))) (0, ())) <| M.sum (fun (j9_ : Unit) =>
 M.callS (.one (.cell .string)) (X (.call 100 [(.pointer (some (Addr.mk b0_ 0 none)))])) fun (r10_ : ByteArray) =>
 M.pure (.string r10_)) (fun _ => M.stuck)

theorem e50 (X : Task → M Value) (L : LoopI) (x : ((Option Addr × Nat × Nat)) × Unit) : evBody CC { call := X, loop := L } 50 (shsInj [(.cell .slice)] x) = f50 X L x := by kernel_rfl

/-- (*hayrick/store.Store).Log -/
def f51 (X : Task → M Value) (L : LoopI) (x : (Option Addr) × Unit) : M Value :=
 M.eqPtr x.1 none fun (q0_ : Bool) =>
 M.ite q0_
 (M.pure (.pointer none))
 (M.deref x.1 fun a1_ =>
 M.load (.cell .ptr) 1 (a1_.add 0) fun (x2_ : Option Addr) =>
 M.pure (.pointer x2_))

theorem e51 (X : Task → M Value) (L : LoopI) (x : (Option Addr) × Unit) : evBody CC { call := X, loop := L } 51 (shsInj [(.cell .ptr)] x) = f51 X L x := by kernel_rfl

/-- hayrick/files.Put -/
def f52c0 (X : Task → M Value) (L : LoopI) (x : (Option Addr) × (Int × Int × Int × Int × Int × Int × Int × Int × Int × Int × Int × Unit) × ((Option Addr × Nat × Nat)) × (Bool) × Unit) (s11_ : ((Option Addr × Nat × Nat)) × (Int) × Unit) (b13_ : Nat) (x17_ : Int) : M ((((Option Addr × Nat × Nat)) × (Int) × Unit) ⊕ ((((Option Addr × Nat × Nat)) × Unit) ⊕ (((Int) × Unit) ⊕ (Unit)))) :=
 M.callS (.tuple [(.cell (.int .u32)), (.cell (.int .i64))]) (X (.call 104 [(.pointer x.1), (.int .i64 x17_), (.int .i64 s11_.2.1), (.slice (some (Addr.mk b13_ 0 none)) (Int.toNat 112) (Int.toNat 112)), (.bool false)])) fun (r18_ : (Int) × (Int) × Unit) =>
 M.ite (!(r18_.2.1 == 0))
 (M.pure (.inr (.inr (.inl (r18_.2.1, ())))))
 (M.new (.cells (Row.ofList [(.int .u32 r18_.1)]) 86 false (0, 0) false) fun b20_ =>
 M.append 86 1 4 s11_.1.1 s11_.1.2.1 s11_.1.2.2 (.slice (some (Addr.mk b20_ 0 none)) 1 1) fun a21_ n22_ c23_ =>
 M.pure (.inl ((a21_, n22_, c23_), (IntKind.i64.wrap (s11_.2.1 + 1)), ())))
def f52c1 (X : Task → M Value) (L : LoopI) (x : (Option Addr) × (Int × Int × Int × Int × Int × Int × Int × Int × Int × Int × Int × Unit) × ((Option Addr × Nat × Nat)) × (Bool) × Unit) (b0_ : Nat) (s11_ : ((Option Addr × Nat × Nat)) × (Int) × Unit) : M ((((Option Addr × Nat × Nat)) × (Int) × Unit) ⊕ ((((Option Addr × Nat × Nat)) × Unit) ⊕ (((Int) × Unit) ⊕ (Unit)))) :=
 M.guard (decide (0 ≤ 112) && decide (112 ≤ 112) && decide ((1 : Int) * 112 ≤ 2 ^ 48))
 (M.new (.cells (Row.rep [(.int .u8 0)] (Int.toNat 112)) 5 false (0, 0) false) fun b13_ =>
 let v14_ : Int := IntKind.i64.wrap (s11_.2.1 * 112)
 M.guard (decide (0 ≤ v14_) && decide (v14_ ≤ ((x.2.2.1.2.1 : Nat) : Int)))
 (let v15_ : Nat := (Int.toNat v14_)
 M.copy 1 (some (Addr.mk b13_ 0 none)) (Int.toNat 112) (.slice (x.2.2.1.1.map (·.add (v15_ * 1))) (x.2.2.1.2.1 - v15_) (x.2.2.1.2.2 - v15_)) fun m16_ =>
 M.load (.cell (.int .i64)) 1 ((Addr.mk b0_ 0 none).add 0) fun (x17_ : Int) =>
 f52c0 X L x s11_ b13_ x17_))
def f52c2 (X : Task → M Value) (L : LoopI) (x : (Option Addr) × (Int × Int × Int × Int × Int × Int × Int × Int × Int × Int × Int × Unit) × ((Option Addr × Nat × Nat)) × (Bool) × Unit) (j25_ : ((Option Addr × Nat × Nat)) × Unit) (x26_ : Int × Int × Int × Int × Int × Int × Int × Int × Int × Int × Int × Unit) : M (Value) :=
 M.callS (.one (.cell (.int .i64))) (X (.call 105 [(.pointer x.1), (.agg ⟨[(.int .i64 x26_.1), (.int .i64 x26_.2.1), (.int .i64 x26_.2.2.1), (.int .i64 x26_.2.2.2.1), (.int .u32 x26_.2.2.2.2.1), (.int .u32 x26_.2.2.2.2.2.1), (.int .u32 x26_.2.2.2.2.2.2.1), (.int .u32 x26_.2.2.2.2.2.2.2.1), (.int .u32 x26_.2.2.2.2.2.2.2.2.1), (.int .u32 x26_.2.2.2.2.2.2.2.2.2.1), (.int .u32 x26_.2.2.2.2.2.2.2.2.2.2.1)]⟩), (.slice j25_.1.1 j25_.1.2.1 j25_.1.2.2), (.bool x.2.2.2.1)])) fun (r27_ : Int) =>
 M.pure (.int .i64 r27_)
def f52c3 (X : Task → M Value) (L : LoopI) (x : (Option Addr) × (Int × Int × Int × Int × Int × Int × Int × Int × Int × Int × Int × Unit) × ((Option Addr × Nat × Nat)) × (Bool) × Unit) (b0_ : Nat) (r10_ : Int) : M (Value) :=
 M.bind (L (σ := ((Option Addr × Nat × Nat)) × (Int) × Unit) (ρ := (((Option Addr × Nat × Nat)) × Unit) ⊕ (((Int) × Unit) ⊕ (Unit))) (fun s11_ =>
 M.ite (decide (s11_.2.1 < r10_))
 (f52c1 X L x b0_ s11_)
 (M.pure (.inr (.inl (s11_.1, ()))))) ((none, 0, 0), 0, ())) <| M.sum (fun (j25_ : ((Option Addr × Nat × Nat)) × Unit) =>
 M.load (.agg [(.int .i64), (.int .i64), (.int .i64), (.int .i64), (.int .u32), (.int .u32), (.int .u32), (.int .u32), (.int .u32), (.int .u32), (.int .u32)]) 11 (Addr.mk b0_ 0 none) fun (x26_ : Int × Int × Int × Int × Int × Int × Int × Int × Int × Int × Int × Unit) =>
 f52c2 X L x j25_ x26_) (M.sum (fun (j28_ : (Int) × Unit) =>
 M.pure (.int .i64 j28_.1)) (fun _ => M.stuck))
def f52c4 (X : Task → M Value) (L : LoopI) (x : (Option Addr) × (Int × Int × Int × Int × Int × Int × Int × Int × Int × Int × Int × Unit) × ((Option Addr × Nat × Nat)) × (Bool) × Unit) (b0_ : Nat) (x6_ : Int × Int × Int × Int × Int × Int × Int × Int × Int × Int × Int × Unit) : M (Value) :=
 M.callS (.one (.cell .bool)) (X (.call 102 [(.agg ⟨[(.int .i64 x6_.1), (.int .i64 x6_.2.1), (.int .i64 x6_.2.2.1), (.int .i64 x6_.2.2.2.1), (.int .u32 x6_.2.2.2.2.1), (.int .u32 x6_.2.2.2.2.2.1), (.int .u32 x6_.2.2.2.2.2.2.1), (.int .u32 x6_.2.2.2.2.2.2.2.1), (.int .u32 x6_.2.2.2.2.2.2.2.2.1), (.int .u32 x6_.2.2.2.2.2.2.2.2.2.1), (.int .u32 x6_.2.2.2.2.2.2.2.2.2.2.1)]⟩)])) fun (r7_ : Bool) =>
 M.ite (!r7_)
 (M.pure (.int .i64 1))
 (M.callS (.one (.cell (.int .i64))) (X (.call 103 [(.int .i64 ((x.2.2.1.2.1 : Nat) : Int))])) fun (r10_ : Int) =>
 f52c3 X L x b0_ r10_)
def f52c5 (X : Task → M Value) (L : LoopI) (x : (Option Addr) × (Int × Int × Int × Int × Int × Int × Int × Int × Int × Int × Int × Unit) × ((Option Addr × Nat × Nat)) × (Bool) × Unit) (b0_ : Nat) (r5_ : Int × Int × Int × Int × Int × Int × Int × Int × Int × Int × Int × Unit) : M (Value) :=
 M.store (Addr.mk b0_ 0 none) [(.int .i64 r5_.1), (.int .i64 r5_.2.1), (.int .i64 r5_.2.2.1), (.int .i64 r5_.2.2.2.1), (.int .u32 r5_.2.2.2.2.1), (.int .u32 r5_.2.2.2.2.2.1), (.int .u32 r5_.2.2.2.2.2.2.1), (.int .u32 r5_.2.2.2.2.2.2.2.1), (.int .u32 r5_.2.2.2.2.2.2.2.2.1), (.int .u32 r5_.2.2.2.2.2.2.2.2.2.1), (.int .u32 r5_.2.2.2.2.2.2.2.2.2.2.1)]
 (M.load (.agg [(.int .i64), (.int .i64), (.int .i64), (.int .i64), (.int .u32), (.int .u32), (.int .u32), (.int .u32), (.int .u32), (.int .u32), (.int .u32)]) 11 (Addr.mk b0_ 0 none) fun (x6_ : Int × Int × Int × Int × Int × Int × Int × Int × Int × Int × Int × Unit) =>
 f52c4 X L x b0_ x6_)
def f52c6 (X : Task → M Value) (L : LoopI) (x : (Option Addr) × (Int × Int × Int × Int × Int × Int × Int × Int × Int × Int × Int × Unit) × ((Option Addr × Nat × Nat)) × (Bool) × Unit) (b0_ : Nat) (x3_ : Int × Int × Int × Int × Int × Int × Int × Int × Int × Int × Int × Unit) (v4_ : Int) : M (Value) :=
 M.callS (.one (.agg [(.int .i64), (.int .i64), (.int .i64), (.int .i64), (.int .u32), (.int .u32), (.int .u32), (.int .u32), (.int .u32), (.int .u32), (.int .u32)])) (X (.call 101 [(.agg ⟨[(.int .i64 x3_.1), (.int .i64 x3_.2.1), (.int .i64 x3_.2.2.1), (.int .i64 x3_.2.2.2.1), (.int .u32 x3_.2.2.2.2.1), (.int .u32 x3_.2.2.2.2.2.1), (.int .u32 x3_.2.2.2.2.2.2.1), (.int .u32 x3_.2.2.2.2.2.2.2.1), (.int .u32 x3_.2.2.2.2.2.2.2.2.1), (.int .u32 x3_.2.2.2.2.2.2.2.2.2.1), (.int .u32 x3_.2.2.2.2.2.2.2.2.2.2.1)]⟩), (.int .i64 v4_)])) fun (r5_ : Int × Int × Int × Int × Int × Int × Int × Int × Int × Int × Int × Unit) =>
 f52c5 X L x b0_ r5_
def f52c7 (X : Task → M Value) (L : LoopI) (x : (Option Addr) × (Int × Int × Int × Int × Int × Int × Int × Int × Int × Int × Int × Unit) × ((Option Addr × Nat × Nat)) × (Bool) × Unit) : M (Value) :=
 M.new (.cells (Row.ofList [(.int .i64 x.2.1.1), (.int .i64 x.2.1.2.1), (.int .i64 x.2.1.2.2.1), (.int .i64 x.2.1.2.2.2.1), (.int .u32 x.2.1.2.2.2.2.1), (.int .u32 x.2.1.2.2.2.2.2.1), (.int .u32 x.2.1.2.2.2.2.2.2.1), (.int .u32 x.2.1.2.2.2.2.2.2.2.1), (.int .u32 x.2.1.2.2.2.2.2.2.2.2.1), (.int .u32 x.2.1.2.2.2.2.2.2.2.2.2.1), (.int .u32 x.2.1.2.2.2.2.2.2.2.2.2.2.1)]) 117 false (0, 0) false) fun b0_ =>
 M.callS (.one (.cell .ptr)) (X (.call 51 [(.pointer x.1)])) fun (r1_ : Option Addr) =>
 M.eqPtr r1_ none fun (q2_ : Bool) =>
 M.ite q2_
 (M.pure (.int .i64 2))
 (M.load (.agg [(.int .i64), (.int .i64), (.int .i64), (.int .i64), (.int .u32), (.int .u32), (.int .u32), (.int .u32), (.int .u32), (.int .u32), (.int .u32)]) 11 (Addr.mk b0_ 0 none) fun (x3_ : Int × Int × Int × Int × Int × Int × Int × Int × Int × Int × Int × Unit) =>
 f52c6 X L x b0_ x3_ ((x.2.2.1.2.1 : Nat) : Int))
def f52 (X : Task → M Value) (L : LoopI) (x : (Option Addr) × (Int × Int × Int × Int × Int × Int × Int × Int × Int × Int × Int × Unit) × ((Option Addr × Nat × Nat)) × (Bool) × Unit) : M Value :=
 f52c7 X L x

theorem e52 (X : Task → M Value) (L : LoopI) (x : (Option Addr) × (Int × Int × Int × Int × Int × Int × Int × Int × Int × Int × Int × Unit) × ((Option Addr × Nat × Nat)) × (Bool) × Unit) : evBody CC { call := X, loop := L } 52 (shsInj [(.cell .ptr), (.agg [(.int .i64), (.int .i64), (.int .i64), (.int .i64), (.int .u32), (.int .u32), (.int .u32), (.int .u32), (.int .u32), (.int .u32), (.int .u32)]), (.cell .slice), (.cell .bool)] x) = f52 X L x := by kernel_rfl

/-- hayrick/hayrickref19.Put -/
def f53c0 (X : Task → M Value) (L : LoopI) (x : (Option Addr) × (Int × Int × Int × Int × Int × Int × Int × Int × Int × Int × Int × Unit) × ((Option Addr × Nat × Nat)) × (Bool) × Unit) (s7_ : ((Option Addr × Nat × Nat)) × (Int) × Unit) (b10_ : Nat) (s11_ : (Int) × Unit) (j12_ : (Bool) × Unit) : M (((Int) × Unit) ⊕ ((Unit) ⊕ (Unit))) :=
 M.ite j12_.1
 (let v14_ : Int := IntKind.i64.wrap (s7_.2.1 + s11_.1)
 M.guard (decide (0 ≤ v14_) && decide (v14_ < ((x.2.2.1.2.1 : Nat) : Int)))
 (M.deref x.2.2.1.1 fun a15_ =>
 M.load (.cell (.int .u8)) 1 (a15_.add ((Int.toNat v14_) * 1)) fun (x16_ : Int) =>
 M.guard (decide (0 ≤ s11_.1) && decide (s11_.1 < (((Int.toNat 112) : Nat) : Int)))
 (M.store ((Addr.mk b10_ 0 none).add ((Int.toNat s11_.1) * 1)) [(.int .u8 x16_)]
 (M.pure (.inl ((IntKind.i64.wrap (s11_.1 + 1)), ()))))))
 (M.pure (.inr (.inl (()))))
def f53c1 (X : Task → M Value) (L : LoopI) (x : (Option Addr) × (Int × Int × Int × Int × Int × Int × Int × Int × Int × Int × Int × Unit) × ((Option Addr × Nat × Nat)) × (Bool) × Unit) (s7_ : ((Option Addr × Nat × Nat)) × (Int) × Unit) (b10_ : Nat) (x23_ : Int) (v24_ : Int) : M ((((Option Addr × Nat × Nat)) × (Int) × Unit) ⊕ ((((Option Addr × Nat × Nat)) × Unit) ⊕ (((Int) × Unit) ⊕ (Unit)))) :=
 M.callS (.tuple [(.cell (.int .u32)), (.cell (.int .i64))]) (X (.call 107 [(.pointer x.1), (.int .i64 x23_), (.int .i64 v24_), (.slice (some (Addr.mk b10_ 0 none)) (Int.toNat 112) (Int.toNat 112)), (.bool false)])) fun (r25_ : (Int) × (Int) × Unit) =>
 M.ite (!(r25_.2.1 == 0))
 (M.pure (.inr (.inr (.inl (r25_.2.1, ())))))
 (M.new (.cells (Row.ofList [(.int .u32 r25_.1)]) 86 false (0, 0) false) fun b27_ =>
 M.append 86 1 4 s7_.1.1 s7_.1.2.1 s7_.1.2.2 (.slice (some (Addr.mk b27_ 0 none)) 1 1) fun a28_ n29_ c30_ =>
 M.pure (.inl ((a28_, n29_, c30_), (IntKind.i64.wrap (s7_.2.1 + 112)), ())))
def f53c2 (X : Task → M Value) (L : LoopI) (x : (Option Addr) × (Int × Int × Int × Int × Int × Int × Int × Int × Int × Int × Int × Unit) × ((Option Addr × Nat × Nat)) × (Bool) × Unit) (b0_ : Nat) (s7_ : ((Option Addr × Nat × Nat)) × (Int) × Unit) (b10_ : Nat) : M ((((Option Addr × Nat × Nat)) × (Int) × Unit) ⊕ ((((Option Addr × Nat × Nat)) × Unit) ⊕ (((Int) × Unit) ⊕ (Unit)))) :=
 M.bind (L (σ := (Int) × Unit) (ρ := (Unit) ⊕ (Unit)) (fun s11_ =>
 M.join (fun (j12_ : (Bool) × Unit) =>
 f53c0 X L x s7_ b10_ s11_ j12_) fun go13_ =>
 M.ite (decide (s11_.1 < 112))
 (go13_ ((decide ((IntKind.i64.wrap (s7_.2.1 + s11_.1)) < ((x.2.2.1.2.1 : Nat) : Int))), ()))
 (go13_ (false, ()))) (0, ())) <| M.sum (fun (j22_ : Unit) =>
 M.load (.cell (.int .i64)) 1 ((Addr.mk b0_ 0 none).add 0) fun (x23_ : Int) =>
 M.guard (!(decide (112 = 0)))
 (f53c1 X L x s7_ b10_ x23_ (IntKind.i64.wrap ((s7_.2.1 : Int).tdiv 112)))) (fun _ => M.stuck)
def f53c3 (X : Task → M Value) (L : LoopI) (x : (Option Addr) × (Int × Int × Int × Int × Int × Int × Int × Int × Int × Int × Int × Unit) × ((Option Addr × Nat × Nat)) × (Bool) × Unit) (j32_ : ((Option Addr × Nat × Nat)) × Unit) (x33_ : Int × Int × Int × Int × Int × Int × Int × Int × Int × Int × Int × Unit) (v34_ : Int) : M (Value) :=
 M.callS (.one (.cell (.int .i64))) (X (.call 108 [(.pointer x.1), (.agg ⟨[(.int .i64 x33_.1), (.int .i64 x33_.2.1), (.int .i64 x33_.2.2.1), (.int .i64 x33_.2.2.2.1), (.int .u32 x33_.2.2.2.2.1), (.int .u32 x33_.2.2.2.2.2.1), (.int .u32 x33_.2.2.2.2.2.2.1), (.int .u32 x33_.2.2.2.2.2.2.2.1), (.int .u32 x33_.2.2.2.2.2.2.2.2.1), (.int .u32 x33_.2.2.2.2.2.2.2.2.2.1), (.int .u32 x33_.2.2.2.2.2.2.2.2.2.2.1)]⟩), (.int .i64 v34_), (.slice j32_.1.1 j32_.1.2.1 j32_.1.2.2), (.bool x.2.2.2.1)])) fun (r35_ : Int) =>
 M.pure (.int .i64 r35_)
def f53c4 (X : Task → M Value) (L : LoopI) (x : (Option Addr) × (Int × Int × Int × Int × Int × Int × Int × Int × Int × Int × Int × Unit) × ((Option Addr × Nat × Nat)) × (Bool) × Unit) (b0_ : Nat) : M (Value) :=
 M.bind (L (σ := ((Option Addr × Nat × Nat)) × (Int) × Unit) (ρ := (((Option Addr × Nat × Nat)) × Unit) ⊕ (((Int) × Unit) ⊕ (Unit))) (fun s7_ =>
 M.ite (decide (s7_.2.1 < ((x.2.2.1.2.1 : Nat) : Int)))
 (M.guard (decide (0 ≤ 112) && decide (112 ≤ 112) && decide ((1 : Int) * 112 ≤ 2 ^ 48))
 (M.new (.cells (Row.rep [(.int .u8 0)] (Int.toNat 112)) 5 false (0, 0) false) fun b10_ =>
 f53c2 X L x b0_ s7_ b10_))
 (M.pure (.inr (.inl (s7_.1, ()))))) ((none, 0, 0), 0, ())) <| M.sum (fun (j32_ : ((Option Addr × Nat × Nat)) × Unit) =>
 M.load (.agg [(.int .i64), (.int .i64), (.int .i64), (.int .i64), (.int .u32), (.int .u32), (.int .u32), (.int .u32), (.int .u32), (.int .u32), (.int .u32)]) 11 (Addr.mk b0_ 0 none) fun (x33_ : Int × Int × Int × Int × Int × Int × Int × Int × Int × Int × Int × Unit) =>
 f53c3 X L x j32_ x33_ ((x.2.2.1.2.1 : Nat) : Int)) (M.sum (fun (j36_ : (Int) × Unit) =>
 M.pure (.int .i64 j36_.1)) (fun _ => M.stuck))
def f53c5 (X : Task → M Value) (L : LoopI) (x : (Option Addr) × (Int × Int × Int × Int × Int × Int × Int × Int × Int × Int × Int × Unit) × ((Option Addr × Nat × Nat)) × (Bool) × Unit) (b0_ : Nat) : M (Value) :=
 M.load (.cell (.int .i64)) 1 ((Addr.mk b0_ 0 none).add 0) fun (x1_ : Int) =>
 M.load (.cell (.int .i64)) 1 ((Addr.mk b0_ 0 none).add 1) fun (x2_ : Int) =>
 M.load (.cell (.int .i64)) 1 ((Addr.mk b0_ 0 none).add 3) fun (x4_ : Int) =>
 M.callS (.one (.cell .bool)) (X (.call 106 [(.agg ⟨[(.int .i64 x1_), (.int .i64 x2_), (.int .i64 ((x.2.2.1.2.1 : Nat) : Int)), (.int .i64 x4_), (.int .u32 0), (.int .u32 0), (.int .u32 0), (.int .u32 0), (.int .u32 0), (.int .u32 0), (.int .u32 0)]⟩)])) fun (r5_ : Bool) =>
 M.ite (!r5_)
 (M.pure (.int .i64 1))
 (f53c4 X L x b0_)
def f53 (X : Task → M Value) (L : LoopI) (x : (Option Addr) × (Int × Int × Int × Int × Int × Int × Int × Int × Int × Int × Int × Unit) × ((Option Addr × Nat × Nat)) × (Bool) × Unit) : M Value :=
 M.new (.cells (Row.ofList [(.int .i64 x.2.1.1), (.int .i64 x.2.1.2.1), (.int .i64 x.2.1.2.2.1), (.int .i64 x.2.1.2.2.2.1), (.int .u32 x.2.1.2.2.2.2.1), (.int .u32 x.2.1.2.2.2.2.2.1), (.int .u32 x.2.1.2.2.2.2.2.2.1), (.int .u32 x.2.1.2.2.2.2.2.2.2.1), (.int .u32 x.2.1.2.2.2.2.2.2.2.2.1), (.int .u32 x.2.1.2.2.2.2.2.2.2.2.2.1), (.int .u32 x.2.1.2.2.2.2.2.2.2.2.2.2.1)]) 117 false (0, 0) false) fun b0_ =>
 f53c5 X L x b0_

theorem e53 (X : Task → M Value) (L : LoopI) (x : (Option Addr) × (Int × Int × Int × Int × Int × Int × Int × Int × Int × Int × Int × Unit) × ((Option Addr × Nat × Nat)) × (Bool) × Unit) : evBody CC { call := X, loop := L } 53 (shsInj [(.cell .ptr), (.agg [(.int .i64), (.int .i64), (.int .i64), (.int .i64), (.int .u32), (.int .u32), (.int .u32), (.int .u32), (.int .u32), (.int .u32), (.int .u32)]), (.cell .slice), (.cell .bool)] x) = f53 X L x := by kernel_rfl

/-- hayrick/hayrickref20.Save -/
def f54c0 (X : Task → M Value) (L : LoopI) (x : (Option Addr) × (Int) × ((Option Addr × Nat × Nat)) × (Bool) × Unit) : M (Value) :=
 M.callS (.tuple [(.cell .slice), (.cell (.int .i64))]) (X (.call 109 [(.slice x.2.2.1.1 x.2.2.1.2.1 x.2.2.1.2.2)])) fun (r0_ : ((Option Addr × Nat × Nat)) × (Int) × Unit) =>
 M.ite (!(r0_.2.1 == 0))
 (M.pure (.int .i64 r0_.2.1))
 (M.callS (.one (.cell (.int .i64))) (X (.call 53 [(.pointer x.1), (.agg ⟨[(.int .i64 x.2.1), (.int .i64 2), (.int .i64 0), (.int .i64 1), (.int .u32 0), (.int .u32 0), (.int .u32 0), (.int .u32 0), (.int .u32 0), (.int .u32 0), (.int .u32 0)]⟩), (.slice r0_.1.1 r0_.1.2.1 r0_.1.2.2), (.bool x.2.2.2.1)])) fun (r2_ : Int) =>
 M.pure (.int .i64 r2_))
def f54 (X : Task → M Value) (L : LoopI) (x : (Option Addr) × (Int) × ((Option Addr × Nat × Nat)) × (Bool) × Unit) : M Value :=
 f54c0 X L x

theorem e54 (X : Task → M Value) (L : LoopI) (x : (Option Addr) × (Int) × ((Option Addr × Nat × Nat)) × (Bool) × Unit) : evBody CC { call := X, loop := L } 54 (shsInj [(.cell .ptr), (.cell (.int .i64)), (.cell .slice), (.cell .bool)] x) = f54 X L x := by kernel_rfl

/-- slices.Equal[[]string,string] -/
def f55c0 (X : Task → M Value) (L : LoopI) (x : ((Option Addr × Nat × Nat)) × ((Option Addr × Nat × Nat)) × Unit) (s4_ : (Int) × Unit) (v5_ : Bool) : M (((Int) × Unit) ⊕ ((Unit) ⊕ (((Bool) × Unit) ⊕ (Unit)))) :=
 M.ite v5_
 (M.guard (decide (0 ≤ s4_.1) && decide (s4_.1 < ((x.1.2.1 : Nat) : Int)))
 (M.deref x.1.1 fun a6_ =>
 M.load (.cell .string) 1 (a6_.add ((Int.toNat s4_.1) * 1)) fun (x7_ : ByteArray) =>
 M.guard (decide (0 ≤ s4_.1) && decide (s4_.1 < ((x.2.1.2.1 : Nat) : Int)))
 (M.deref x.2.1.1 fun a8_ =>
 M.load (.cell .string) 1 (a8_.add ((Int.toNat s4_.1) * 1)) fun (x9_ : ByteArray) =>
 M.ite (!(seq x7_ x9_))
 (M.pure (.inr (.inr (.inl (false, ())))))
 (M.pure (.inl ((IntKind.i64.wrap (s4_.1 + 1)), ()))))))
 (M.pure (.inr (.inl (()))))
def f55 (X : Task → M Value) (L : LoopI) (x : ((Option Addr × Nat × Nat)) × ((Option Addr × Nat × Nat)) × Unit) : M Value :=
 M.ite (!(((x.1.2.1 : Nat) : Int) == ((x.2.1.2.1 : Nat) : Int)))
 (M.pure (.bool false))
 (M.bind (L (σ := (Int) × Unit) (ρ := (Unit) ⊕ (((Bool) × Unit) ⊕ (Unit))) (fun s4_ =>
 f55c0 X L x s4_ (decide (s4_.1 < ((x.1.2.1 : Nat) : Int)))) (0, ())) <| M.sum (fun (j12_ : Unit) =>
 M.pure (.bool true)) (M.sum (fun (j13_ : (Bool) × Unit) =>
 M.pure (.bool j13_.1)) (fun _ => M.stuck)))

theorem e55 (X : Task → M Value) (L : LoopI) (x : ((Option Addr × Nat × Nat)) × ((Option Addr × Nat × Nat)) × Unit) : evBody CC { call := X, loop := L } 55 (shsInj [(.cell .slice), (.cell .slice)] x) = f55 X L x := by kernel_rfl

/-- hayrick/dirs.load -/
def f58c0 (X : Task → M Value) (L : LoopI) (b0_ : Nat) : M (Value) :=
 M.load (.agg [(.int .i64), (.int .i64), (.int .i64), (.int .i64), (.int .u32), (.int .u32), (.int .u32), (.int .u32), (.int .u32), (.int .u32), (.int .u32)]) 11 (Addr.mk b0_ 0 none) fun (x2_ : Int × Int × Int × Int × Int × Int × Int × Int × Int × Int × Int × Unit) =>
 M.pure (.tuple ⟨[(.agg ⟨[(.int .i64 x2_.1), (.int .i64 x2_.2.1), (.int .i64 x2_.2.2.1), (.int .i64 x2_.2.2.2.1), (.int .u32 x2_.2.2.2.2.1), (.int .u32 x2_.2.2.2.2.2.1), (.int .u32 x2_.2.2.2.2.2.2.1), (.int .u32 x2_.2.2.2.2.2.2.2.1), (.int .u32 x2_.2.2.2.2.2.2.2.2.1), (.int .u32 x2_.2.2.2.2.2.2.2.2.2.1), (.int .u32 x2_.2.2.2.2.2.2.2.2.2.2.1)]⟩), (.int .i64 2)]⟩)
def f58c1 (X : Task → M Value) (L : LoopI) (b0_ : Nat) (j5_ : (Int) × Unit) : M (Value) :=
 M.load (.agg [(.int .i64), (.int .i64), (.int .i64), (.int .i64), (.int .u32), (.int .u32), (.int .u32), (.int .u32), (.int .u32), (.int .u32), (.int .u32)]) 11 (Addr.mk b0_ 0 none) fun (x8_ : Int × Int × Int × Int × Int × Int × Int × Int × Int × Int × Int × Unit) =>
 M.pure (.tuple ⟨[(.agg ⟨[(.int .i64 x8_.1), (.int .i64 x8_.2.1), (.int .i64 x8_.2.2.1), (.int .i64 x8_.2.2.2.1), (.int .u32 x8_.2.2.2.2.1), (.int .u32 x8_.2.2.2.2.2.1), (.int .u32 x8_.2.2.2.2.2.2.1), (.int .u32 x8_.2.2.2.2.2.2.2.1), (.int .u32 x8_.2.2.2.2.2.2.2.2.1), (.int .u32 x8_.2.2.2.2.2.2.2.2.2.1), (.int .u32 x8_.2.2.2.2.2.2.2.2.2.2.1)]⟩), (.int .i64 j5_.1)]⟩)
def f58c2 (X : Task → M Value) (L : LoopI) (b0_ : Nat) (b4_ : Nat) (j5_ : (Int) × Unit) : M (Value) :=
 M.load (.agg [(.int .i64), (.int .i64), (.int .i64), (.int .i64), (.int .u32), (.int .u32), (.int .u32), (.int .u32), (.int .u32), (.int .u32), (.int .u32)]) 11 (Addr.mk b4_ 0 none) fun (x7_ : Int × Int × Int × Int × Int × Int × Int × Int × Int × Int × Int × Unit) =>
 M.store (Addr.mk b0_ 0 none) [(.int .i64 x7_.1), (.int .i64 x7_.2.1), (.int .i64 x7_.2.2.1), (.int .i64 x7_.2.2.2.1), (.int .u32 x7_.2.2.2.2.1), (.int .u32 x7_.2.2.2.2.2.1), (.int .u32 x7_.2.2.2.2.2.2.1), (.int .u32 x7_.2.2.2.2.2.2.2.1), (.int .u32 x7_.2.2.2.2.2.2.2.2.1), (.int .u32 x7_.2.2.2.2.2.2.2.2.2.1), (.int .u32 x7_.2.2.2.2.2.2.2.2.2.2.1)]
 (f58c1 X L b0_ j5_)
def f58c3 (X : Task → M Value) (L : LoopI) (b0_ : Nat) (r3_ : (Int × Int × Int × Int × Int × Int × Int × Int × Int × Int × Int × Unit) × (Int) × Unit) (b4_ : Nat) : M (Value) :=
 M.store (Addr.mk b4_ 0 none) [(.int .i64 r3_.1.1), (.int .i64 r3_.1.2.1), (.int .i64 r3_.1.2.2.1), (.int .i64 r3_.1.2.2.2.1), (.int .u32 r3_.1.2.2.2.2.1), (.int .u32 r3_.1.2.2.2.2.2.1), (.int .u32 r3_.1.2.2.2.2.2.2.1), (.int .u32 r3_.1.2.2.2.2.2.2.2.1), (.int .u32 r3_.1.2.2.2.2.2.2.2.2.1), (.int .u32 r3_.1.2.2.2.2.2.2.2.2.2.1), (.int .u32 r3_.1.2.2.2.2.2.2.2.2.2.2.1)]
 (M.join (fun (j5_ : (Int) × Unit) =>
 f58c2 X L b0_ b4_ j5_) fun go6_ =>
 M.join (fun (j9_ : (Bool) × Unit) =>
 M.ite j9_.1
 (go6_ (34, ()))
 (go6_ (r3_.2.1, ()))) fun go10_ =>
 M.ite (r3_.2.1 == 0)
 (M.load (.cell (.int .i64)) 1 ((Addr.mk b4_ 0 none).add 1) fun (x12_ : Int) =>
 go10_ ((!(x12_ == 2)), ()))
 (go10_ (false, ())))
def f58c4 (X : Task → M Value) (L : LoopI) (x : (Option Addr) × (Int) × Unit) (b0_ : Nat) : M (Value) :=
 M.callS (.tuple [(.agg [(.int .i64), (.int .i64), (.int .i64), (.int .i64), (.int .u32), (.int .u32), (.int .u32), (.int .u32), (.int .u32), (.int .u32), (.int .u32)]), (.cell (.int .i64))]) (X (.call 112 [(.pointer x.1), (.int .i64 x.2.1)])) fun (r3_ : (Int × Int × Int × Int × Int × Int × Int × Int × Int × Int × Int × Unit) × (Int) × Unit) =>
 M.new (.cells (Row.ofList [(.int .i64 0), (.int .i64 0), (.int .i64 0), (.int .i64 0), (.int .u32 0), (.int .u32 0), (.int .u32 0), (.int .u32 0), (.int .u32 0), (.int .u32 0), (.int .u32 0)]) 117 false (0, 0) false) fun b4_ =>
 f58c3 X L b0_ r3_ b4_
def f58c5 (X : Task → M Value) (L : LoopI) (x : (Option Addr) × (Int) × Unit) : M (Value) :=
 M.new (.cells (Row.ofList [(.int .i64 0), (.int .i64 0), (.int .i64 0), (.int .i64 0), (.int .u32 0), (.int .u32 0), (.int .u32 0), (.int .u32 0), (.int .u32 0), (.int .u32 0), (.int .u32 0)]) 117 false (0, 0) false) fun b0_ =>
 M.eqPtr x.1 none fun (q1_ : Bool) =>
 M.ite q1_
 (M.store (Addr.mk b0_ 0 none) [(.int .i64 0), (.int .i64 0), (.int .i64 0), (.int .i64 0), (.int .u32 0), (.int .u32 0), (.int .u32 0), (.int .u32 0), (.int .u32 0), (.int .u32 0), (.int .u32 0)]
 (f58c0 X L b0_))
 (f58c4 X L x b0_)
def f58 (X : Task → M Value) (L : LoopI) (x : (Option Addr) × (Int) × Unit) : M Value :=
 f58c5 X L x

theorem e58 (X : Task → M Value) (L : LoopI) (x : (Option Addr) × (Int) × Unit) : evBody CC { call := X, loop := L } 58 (shsInj [(.cell .ptr), (.cell (.int .i64))] x) = f58 X L x := by kernel_rfl

/-- hayrick/dirs.in[int] -/
def f59c0 (X : Task → M Value) (L : LoopI) (x : (Option Addr) × (Int) × (Value) × Unit) (r4_ : ((Option Addr × Nat × Nat)) × (Int) × Unit) : M (Value) :=
 M.callS (.tuple [(.cell .slice), (.cell (.int .i64))]) (X (.call 111 [(.slice r4_.1.1 r4_.1.2.1 r4_.1.2.2)])) fun (r6_ : ((Option Addr × Nat × Nat)) × (Int) × Unit) =>
 M.ite (!(r6_.2.1 == 0))
 (M.pure (.tuple ⟨[(.int .i64 0), (.int .i64 r6_.2.1)]⟩))
 (callV CC ⟨X, L⟩ x.2.2.1 [(.slice r6_.1.1 r6_.1.2.1 r6_.1.2.2)] fun w9_ => M.need (RSh.prj (.tuple [(.cell (.int .i64)), (.cell (.int .i64))]) w9_) fun (r8_ : (Int) × (Int) × Unit) =>
 M.ite (!(r8_.2.1 == 0))
 (M.pure (.tuple ⟨[(.int .i64 0), (.int .i64 r8_.2.1)]⟩))
 (M.pure (.tuple ⟨[(.int .i64 r8_.1), (.int .i64 0)]⟩)))
def f59c1 (X : Task → M Value) (L : LoopI) (x : (Option Addr) × (Int) × (Value) × Unit) (r0_ : (Int × Int × Int × Int × Int × Int × Int × Int × Int × Int × Int × Unit) × (Int) × Unit) (b1_ : Nat) : M (Value) :=
 M.store (Addr.mk b1_ 0 none) [(.int .i64 r0_.1.1), (.int .i64 r0_.1.2.1), (.int .i64 r0_.1.2.2.1), (.int .i64 r0_.1.2.2.2.1), (.int .u32 r0_.1.2.2.2.2.1), (.int .u32 r0_.1.2.2.2.2.2.1), (.int .u32 r0_.1.2.2.2.2.2.2.1), (.int .u32 r0_.1.2.2.2.2.2.2.2.1), (.int .u32 r0_.1.2.2.2.2.2.2.2.2.1), (.int .u32 r0_.1.2.2.2.2.2.2.2.2.2.1), (.int .u32 r0_.1.2.2.2.2.2.2.2.2.2.2.1)]
 (M.ite (!(r0_.2.1 == 0))
 (M.pure (.tuple ⟨[(.int .i64 0), (.int .i64 r0_.2.1)]⟩))
 (M.load (.cell (.int .i64)) 1 ((Addr.mk b1_ 0 none).add 2) fun (x3_ : Int) =>
 M.callS (.tuple [(.cell .slice), (.cell (.int .i64))]) (X (.call 110 [(.pointer x.1), (.int .i64 x.2.1), (.int .i64 0), (.int .i64 x3_)])) fun (r4_ : ((Option Addr × Nat × Nat)) × (Int) × Unit) =>
 M.ite (!(r4_.2.1 == 0))
 (M.pure (.tuple ⟨[(.int .i64 0), (.int .i64 r4_.2.1)]⟩))
 (f59c0 X L x r4_)))
def f59c2 (X : Task → M Value) (L : LoopI) (x : (Option Addr) × (Int) × (Value) × Unit) : M (Value) :=
 M.callS (.tuple [(.agg [(.int .i64), (.int .i64), (.int .i64), (.int .i64), (.int .u32), (.int .u32), (.int .u32), (.int .u32), (.int .u32), (.int .u32), (.int .u32)]), (.cell (.int .i64))]) (X (.call 58 [(.pointer x.1), (.int .i64 x.2.1)])) fun (r0_ : (Int × Int × Int × Int × Int × Int × Int × Int × Int × Int × Int × Unit) × (Int) × Unit) =>
 M.new (.cells (Row.ofList [(.int .i64 0), (.int .i64 0), (.int .i64 0), (.int .i64 0), (.int .u32 0), (.int .u32 0), (.int .u32 0), (.int .u32 0), (.int .u32 0), (.int .u32 0), (.int .u32 0)]) 117 false (0, 0) false) fun b1_ =>
 f59c1 X L x r0_ b1_
def f59 (X : Task → M Value) (L : LoopI) (x : (Option Addr) × (Int) × (Value) × Unit) : M Value :=
 f59c2 X L x

theorem e59 (X : Task → M Value) (L : LoopI) (x : (Option Addr) × (Int) × (Value) × Unit) : evBody CC { call := X, loop := L } 59 (shsInj [(.cell .ptr), (.cell (.int .i64)), (.cell .val)] x) = f59 X L x := by kernel_rfl

/-- hayrick/dirs.Lookup$1 -/
def f60c0 (X : Task → M Value) (L : LoopI) (x : ((Option Addr × Nat × Nat)) × (Option Addr) × Unit) : M (Value) :=
 M.deref x.2.1 fun a0_ =>
 M.load (.cell .string) 1 a0_ fun (x1_ : ByteArray) =>
 M.callS (.tuple [(.cell (.int .i64)), (.cell .bool)]) (X (.call 61 [(.slice x.1.1 x.1.2.1 x.1.2.2), (.string x1_)])) fun (r2_ : (Int) × (Bool) × Unit) =>
 M.ite (!r2_.2.1)
 (M.pure (.tuple ⟨[(.int .i64 0), (.int .i64 32)]⟩))
 (M.guard (decide (0 ≤ r2_.1) && decide (r2_.1 < ((x.1.2.1 : Nat) : Int)))
 (M.deref x.1.1 fun a4_ =>
 M.load (.cell (.int .i64)) 1 ((a4_.add ((Int.toNat r2_.1) * 2)).add 0) fun (x5_ : Int) =>
 M.pure (.tuple ⟨[(.int .i64 x5_), (.int .i64 0)]⟩)))
def f60 (X : Task → M Value) (L : LoopI) (x : ((Option Addr × Nat × Nat)) × (Option Addr) × Unit) : M Value :=
 f60c0 X L x

theorem e60 (X : Task → M Value) (L : LoopI) (x : ((Option Addr × Nat × Nat)) × (Option Addr) × Unit) : evBody CC { call := X, loop := L } 60 (shsInj [(.cell .slice), (.cell .ptr)] x) = f60 X L x := by kernel_rfl

/-- hayrick/entry.Find -/
def f61c0 (X : Task → M Value) (L : LoopI) (x : ((Option Addr × Nat × Nat)) × (ByteArray) × Unit) (b0_ : Nat) (r1_ : Int) : M (Value) :=
 M.guard (decide (0 ≤ r1_) && decide (r1_ < ((x.1.2.1 : Nat) : Int)))
 (M.deref x.1.1 fun a4_ =>
 M.load (.cell .string) 1 ((a4_.add ((Int.toNat r1_) * 2)).add 1) fun (x5_ : ByteArray) =>
 M.load (.cell .string) 1 (Addr.mk b0_ 0 none) fun (x6_ : ByteArray) =>
 M.load (.cell .string) 1 (Addr.mk b0_ 0 none) fun (x8_ : ByteArray) => cond (veqv (.string x8_) (.string x6_)) (M.load (.cell .string) 1 ((a4_.add ((Int.toNat r1_) * 2)).add 1) fun (x9_ : ByteArray) => cond (veqv (.string x9_) (.string x5_)) (M.pure (.tuple ⟨[(.int .i64 r1_), (.bool (seq x5_ x6_))]⟩)) M.stuck) M.stuck)
def f61 (X : Task → M Value) (L : LoopI) (x : ((Option Addr × Nat × Nat)) × (ByteArray) × Unit) : M Value :=
 M.new (.cells (Row.ofList [(.string x.2.1)]) 9 false (0, 0) false) fun b0_ =>
 M.callS (.one (.cell (.int .i64))) (X (.call 113 [(.slice x.1.1 x.1.2.1 x.1.2.2), (.func (.func 114) ⟨[]⟩ ⟨[(.pointer (some (Addr.mk b0_ 0 none)))]⟩)])) fun (r1_ : Int) =>
 M.ite (decide (r1_ < 0))
 (M.pure (.tuple ⟨[(.int .i64 ((x.1.2.1 : Nat) : Int)), (.bool false)]⟩))
 (f61c0 X L x b0_ r1_)

theorem e61 (X : Task → M Value) (L : LoopI) (x : ((Option Addr × Nat × Nat)) × (ByteArray) × Unit) : evBody CC { call := X, loop := L } 61 (shsInj [(.cell .slice), (.cell .string)] x) = f61 X L x := by kernel_rfl

/-- hayrick/entry.Put -/
def f66c0 (X : Task → M Value) (L : LoopI) (v3_ : Int) (b4_ : Nat) (s6_ : (Int) × Unit) (b10_ : Nat) (v12_ : Nat) (x18_ : ByteArray) (v20_ : Int) : M (((Int) × Unit) ⊕ ((Unit) ⊕ (Unit))) :=
 M.load (.cell .string) 1 ((Addr.mk b10_ 0 none).add 1) fun (x23_ : ByteArray) => cond (veqv (.string x23_) (.string x18_)) (M.guard (decide (0 ≤ 2) && decide (2 < ((((Int.toNat v3_) - v12_) : Nat) : Int)))
 (M.store (((Addr.mk b4_ 0 none).add (v12_ * 1)).add ((Int.toNat 2) * 1)) [(.int .u8 v20_)]
 (M.guard (decide (0 ≤ 3) && decide (3 ≤ ((((Int.toNat v3_) - v12_) : Nat) : Int)))
 (let v24_ : Nat := (Int.toNat 3)
 M.load (.cell .string) 1 ((Addr.mk b10_ 0 none).add 1) fun (x25_ : ByteArray) =>
 M.copy 1 (some (((Addr.mk b4_ 0 none).add (v12_ * 1)).add (v24_ * 1))) (((Int.toNat v3_) - v12_) - v24_) (.string x25_) fun m26_ =>
 M.pure (.inl ((IntKind.i64.wrap (s6_.1 + 1)), ())))))) M.stuck
def f66c1 (X : Task → M Value) (L : LoopI) (v3_ : Int) (b4_ : Nat) (s6_ : (Int) × Unit) (b10_ : Nat) (v12_ : Nat) (v15_ : Int) (x16_ : Int) (v17_ : Int) (x18_ : ByteArray) (v20_ : Int) : M (((Int) × Unit) ⊕ ((Unit) ⊕ (Unit))) :=
 M.store (((Addr.mk b4_ 0 none).add (v12_ * 1)).add ((Int.toNat 0) * 1)) [(.int .u8 v15_)]
 (M.load (.cell .string) 1 ((Addr.mk b10_ 0 none).add 1) fun (x21_ : ByteArray) => cond (veqv (.string x21_) (.string x18_)) (M.load (.cell (.int .i64)) 1 ((Addr.mk b10_ 0 none).add 0) fun (x22_ : Int) => cond (veqv (.int .i64 x22_) (.int .i64 x16_)) (M.guard (decide (0 ≤ 1) && decide (1 < ((((Int.toNat v3_) - v12_) : Nat) : Int)))
 (M.store (((Addr.mk b4_ 0 none).add (v12_ * 1)).add ((Int.toNat 1) * 1)) [(.int .u8 v17_)]
 (f66c0 X L v3_ b4_ s6_ b10_ v12_ x18_ v20_))) M.stuck) M.stuck)
def f66c2 (X : Task → M Value) (L : LoopI) (v3_ : Int) (b4_ : Nat) (s6_ : (Int) × Unit) (b10_ : Nat) (v12_ : Nat) : M (((Int) × Unit) ⊕ ((Unit) ⊕ (Unit))) :=
 M.load (.cell (.int .i64)) 1 ((Addr.mk b10_ 0 none).add 0) fun (x13_ : Int) =>
 M.guard (decide (0 ≤ 8))
 (M.load (.cell (.int .i64)) 1 ((Addr.mk b10_ 0 none).add 0) fun (x16_ : Int) =>
 M.load (.cell .string) 1 ((Addr.mk b10_ 0 none).add 1) fun (x18_ : ByteArray) =>
 M.guard (decide (0 ≤ 0) && decide (0 < ((((Int.toNat v3_) - v12_) : Nat) : Int)))
 (f66c1 X L v3_ b4_ s6_ b10_ v12_ (IntKind.u8.wrap (((x13_ : Int)).fdiv (2 ^ (min (Int.toNat 8) IntKind.i64.bits)))) x16_ (IntKind.u8.wrap x16_) x18_ (IntKind.u8.wrap ((x18_.size : Nat) : Int))))
def f66c3 (X : Task → M Value) (L : LoopI) (x : ((Option Addr × Nat × Nat)) × Unit) (v3_ : Int) (b4_ : Nat) (s6_ : (Int) × Unit) : M (((Int) × Unit) ⊕ ((Unit) ⊕ (Unit))) :=
 M.guard (decide (0 ≤ s6_.1) && decide (s6_.1 < ((x.1.2.1 : Nat) : Int)))
 (M.deref x.1.1 fun a8_ =>
 M.load (.agg [(.int .i64), .string]) 2 (a8_.add ((Int.toNat s6_.1) * 2)) fun (x9_ : Int × ByteArray × Unit) =>
 M.new (.cells (Row.ofList [(.int .i64 0), (.string st0)]) 78 false (0, 0) false) fun b10_ =>
 M.store (Addr.mk b10_ 0 none) [(.int .i64 x9_.1), (.string x9_.2.1)]
 (let v11_ : Int := IntKind.i64.wrap (s6_.1 * 28)
 M.guard (decide (0 ≤ v11_) && decide (v11_ ≤ (((Int.toNat v3_) : Nat) : Int)))
 (f66c2 X L v3_ b4_ s6_ b10_ (Int.toNat v11_))))
def f66c4 (X : Task → M Value) (L : LoopI) (x : ((Option Addr × Nat × Nat)) × Unit) (v3_ : Int) : M (Value) :=
 M.guard (decide (0 ≤ v3_) && decide (v3_ ≤ v3_) && decide ((1 : Int) * v3_ ≤ 2 ^ 48))
 (M.new (.cells (Row.rep [(.int .u8 0)] (Int.toNat v3_)) 5 false (0, 0) false) fun b4_ =>
 M.bind (L (σ := (Int) × Unit) (ρ := (Unit) ⊕ (Unit)) (fun s6_ =>
 M.ite (decide (s6_.1 < ((x.1.2.1 : Nat) : Int)))
 (f66c3 X L x v3_ b4_ s6_)
 (M.pure (.inr (.inl (()))))) (0, ())) <| M.sum (fun (j28_ : Unit) =>
 M.pure (.tuple ⟨[(.slice (some (Addr.mk b4_ 0 none)) (Int.toNat v3_) (Int.toNat v3_)), (.int .i64 0)]⟩)) (fun _ => M.stuck))
def f66 (X : Task → M Value) (L : LoopI) (x : ((Option Addr × Nat × Nat)) × Unit) : M Value :=
 M.callS (.one (.cell .bool)) (X (.call 116 [(.slice x.1.1 x.1.2.1 x.1.2.2)])) fun (r0_ : Bool) =>
 M.ite (!r0_)
 (M.pure (.tuple ⟨[(.slice none 0 0), (.int .i64 1)]⟩))
 (f66c4 X L x (IntKind.i64.wrap (((x.1.2.1 : Nat) : Int) * 28)))

theorem e66 (X : Task → M Value) (L : LoopI) (x : ((Option Addr × Nat × Nat)) × Unit) : evBody CC { call := X, loop := L } 66 (shsInj [(.cell .slice)] x) = f66 X L x := by kernel_rfl

/-- hayrick/hayricklaw17.Made -/
def f69c0 (X : Task → M Value) (L : LoopI) (x : (Int) × (Int) × (Int) × Unit) (r0_ : (Option Addr) × (Option Addr) × Unit) (r4_ : (Option Addr) × (Int) × Unit) (b5_ : Nat) (r6_ : (Option Addr × Nat × Nat)) : M (Value) :=
 M.callS (.tuple [(.cell .ptr), (.cell (.int .i64))]) (X (.call 124 [(.pointer r0_.2.1), (.int .u64 1), (.slice (some (Addr.mk b5_ 0 none)) (Int.toNat x.2.2.1) (Int.toNat x.2.2.1)), (.slice r6_.1 r6_.2.1 r6_.2.2)])) fun (r7_ : (Option Addr) × (Int) × Unit) =>
 M.join (fun (j8_ : (Bool) × Unit) =>
 M.ite j8_.1
 (M.pure (.tuple ⟨[(.pointer none), (.pointer none), (.pointer none), (.pointer none)]⟩))
 (M.pure (.tuple ⟨[(.pointer r4_.1), (.pointer r7_.1), (.pointer r0_.1), (.pointer r0_.2.1)]⟩))) fun go9_ =>
 M.ite (!(r4_.2.1 == 0))
 (go9_ (true, ()))
 (go9_ ((!(r7_.2.1 == 0)), ()))
def f69c1 (X : Task → M Value) (L : LoopI) (x : (Int) × (Int) × (Int) × Unit) (r0_ : (Option Addr) × (Option Addr) × Unit) (b2_ : Nat) (r3_ : (Option Addr × Nat × Nat)) : M (Value) :=
 M.callS (.tuple [(.cell .ptr), (.cell (.int .i64))]) (X (.call 122 [(.pointer r0_.1), (.int .u64 1), (.slice (some (Addr.mk b2_ 0 none)) (Int.toNat x.2.2.1) (Int.toNat x.2.2.1)), (.slice r3_.1 r3_.2.1 r3_.2.2)])) fun (r4_ : (Option Addr) × (Int) × Unit) =>
 M.guard (decide (0 ≤ x.2.2.1) && decide (x.2.2.1 ≤ x.2.2.1) && decide ((8 : Int) * x.2.2.1 ≤ 2 ^ 48))
 (M.new (.cells (Row.rep [(.int .u64 0)] (Int.toNat x.2.2.1)) 206 false (0, 0) false) fun b5_ =>
 M.callS (.one (.cell .slice)) (X (.call 123 [(.int .i64 x.2.2.1)])) fun (r6_ : (Option Addr × Nat × Nat)) =>
 f69c0 X L x r0_ r4_ b5_ r6_)
def f69c2 (X : Task → M Value) (L : LoopI) (x : (Int) × (Int) × (Int) × Unit) : M (Value) :=
 M.callS (.tuple [(.cell .ptr), (.cell .ptr)]) (X (.call 121 [(.int .i64 x.1), (.int .i64 x.2.1), (.int .i64 x.2.2.1), (.int .i64 0)])) fun (r0_ : (Option Addr) × (Option Addr) × Unit) =>
 M.eqPtr r0_.1 none fun (q1_ : Bool) =>
 M.ite q1_
 (M.pure (.tuple ⟨[(.pointer none), (.pointer none), (.pointer none), (.pointer none)]⟩))
 (M.guard (decide (0 ≤ x.2.2.1) && decide (x.2.2.1 ≤ x.2.2.1) && decide ((8 : Int) * x.2.2.1 ≤ 2 ^ 48))
 (M.new (.cells (Row.rep [(.int .u64 0)] (Int.toNat x.2.2.1)) 206 false (0, 0) false) fun b2_ =>
 M.callS (.one (.cell .slice)) (X (.call 123 [(.int .i64 x.2.2.1)])) fun (r3_ : (Option Addr × Nat × Nat)) =>
 f69c1 X L x r0_ b2_ r3_))
def f69 (X : Task → M Value) (L : LoopI) (x : (Int) × (Int) × (Int) × Unit) : M Value :=
 f69c2 X L x

theorem e69 (X : Task → M Value) (L : LoopI) (x : (Int) × (Int) × (Int) × Unit) : evBody CC { call := X, loop := L } 69 (shsInj [(.cell (.int .i64)), (.cell (.int .i64)), (.cell (.int .i64))] x) = f69 X L x := by kernel_rfl

/-- hayrick/store.New -/
def f70c0 (X : Task → M Value) (L : LoopI) (x : (Option Addr) × (List Value) × Unit) (b0_ : Nat) : M (Value) :=
 M.callS (.one (.cell .ptr)) (X (.call 125 [(.pointer x.1)])) fun (r1_ : Option Addr) =>
 M.eqPtr r1_ none fun (q2_ : Bool) =>
 M.ite q2_
 (M.pure (.tuple ⟨[(.pointer none), (.int .i64 2)]⟩))
 (M.load .raw 64 (Addr.mk b0_ 0 none) fun (x3_ : List Value) =>
 M.need (fillA (fun i => ([(0, 1), (1, 64)] : List (Nat × Nat))[i]?) (zc 156) [(0, (.pointer x.1)), (1, (.agg ⟨x3_⟩))]) fun x4_ =>
 M.new (.cells (Row.ofList x4_) 156 false (0, 0) false) fun b5_ =>
 M.pure (.tuple ⟨[(.pointer (some (Addr.mk b5_ 0 none))), (.int .i64 0)]⟩))
def f70 (X : Task → M Value) (L : LoopI) (x : (Option Addr) × (List Value) × Unit) : M Value :=
 M.new (.cells (Row.ofList x.2.1) 87 false (0, 0) false) fun b0_ =>
 f70c0 X L x b0_

theorem e70 (X : Task → M Value) (L : LoopI) (x : (Option Addr) × (List Value) × Unit) : evBody CC { call := X, loop := L } 70 (shsInj [(.cell .ptr), .raw] x) = f70 X L x := by kernel_rfl

/-- internal/stringslite.HasPrefix -/
def f96 (X : Task → M Value) (L : LoopI) (x : (ByteArray) × (ByteArray) × Unit) : M Value :=
 M.join (fun (j0_ : (Bool) × Unit) =>
 M.pure (.bool j0_.1)) fun go1_ =>
 M.ite (decide (((x.1.size : Nat) : Int) ≥ ((x.2.1.size : Nat) : Int)))
 (let v5_ : Int := ((x.2.1.size : Nat) : Int)
 M.guard (decide (0 ≤ v5_) && decide (v5_ ≤ ((x.1.size : Nat) : Int)))
 (go1_ ((seq (x.1.extract 0 (Int.toNat v5_)) x.2.1), ())))
 (go1_ (false, ()))

theorem e96 (X : Task → M Value) (L : LoopI) (x : (ByteArray) × (ByteArray) × Unit) : evBody CC { call := X, loop := L } 96 (shsInj [(.cell .string), (.cell .string)] x) = f96 X L x := by kernel_rfl

/-- slices.Index[[]string,string] -/
def f97c0 (X : Task → M Value) (L : LoopI) (x : ((Option Addr × Nat × Nat)) × (ByteArray) × Unit) (v0_ : Int) : M (Value) :=
 M.bind (L (σ := (Int) × Unit) (ρ := (Unit) ⊕ (((Int) × Unit) ⊕ (Unit))) (fun s1_ =>
 M.ite (decide (s1_.1 < v0_))
 (M.guard (decide (0 ≤ s1_.1) && decide (s1_.1 < ((x.1.2.1 : Nat) : Int)))
 (M.deref x.1.1 fun a3_ =>
 M.load (.cell .string) 1 (a3_.add ((Int.toNat s1_.1) * 1)) fun (x4_ : ByteArray) =>
 M.ite (seq x.2.1 x4_)
 (M.pure (.inr (.inr (.inl (s1_.1, ())))))
 (M.pure (.inl ((IntKind.i64.wrap (s1_.1 + 1)), ())))))
 (M.pure (.inr (.inl (()))))) (0, ())) <| M.sum (fun (j7_ : Unit) =>
 M.pure (.int .i64 (-1))) (M.sum (fun (j8_ : (Int) × Unit) =>
 M.pure (.int .i64 j8_.1)) (fun _ => M.stuck))
def f97 (X : Task → M Value) (L : LoopI) (x : ((Option Addr × Nat × Nat)) × (ByteArray) × Unit) : M Value :=
 f97c0 X L x ((x.1.2.1 : Nat) : Int)

theorem e97 (X : Task → M Value) (L : LoopI) (x : ((Option Addr × Nat × Nat)) × (ByteArray) × Unit) : evBody CC { call := X, loop := L } 97 (shsInj [(.cell .slice), (.cell .string)] x) = f97 X L x := by kernel_rfl

/-- hayrick/names.Whole -/
def f98c0 (X : Task → M Value) (L : LoopI) (x : (ByteArray) × Unit) (b0_ : Nat) : M (Value) :=
 M.bind (L (σ := Unit) (ρ := (Unit) ⊕ (((Bool) × Unit) ⊕ (Unit))) (fun s1_ =>
 M.next b0_
 (M.pure (.inr (.inl (())))) fun i2_ c3_ =>
 M.guard (decide (0 ≤ i2_) && decide (i2_ ≤ ((x.1.size : Nat) : Int)))
 (M.callS (.tuple [(.cell (.int .i32)), (.cell (.int .i64))]) (X (.call 157 [(.string (x.1.extract (Int.toNat i2_) x.1.size))])) fun (r6_ : (Int) × (Int) × Unit) =>
 M.join (fun (j7_ : (Bool) × Unit) =>
 M.ite j7_.1
 (M.pure (.inr (.inr (.inl (false, ())))))
 (M.pure (.inl (())))) fun go8_ =>
 M.ite (c3_ == 65533)
 (go8_ ((r6_.2.1 == 1), ()))
 (go8_ (false, ())))) (())) <| M.sum (fun (j11_ : Unit) =>
 M.pure (.bool true)) (M.sum (fun (j12_ : (Bool) × Unit) =>
 M.pure (.bool j12_.1)) (fun _ => M.stuck))
def f98 (X : Task → M Value) (L : LoopI) (x : (ByteArray) × Unit) : M Value :=
 M.new (.iter x.1 0) fun b0_ =>
 f98c0 X L x b0_

theorem e98 (X : Task → M Value) (L : LoopI) (x : (ByteArray) × Unit) : evBody CC { call := X, loop := L } 98 (shsInj [(.cell .string)] x) = f98 X L x := by kernel_rfl

/-- (*strings.Builder).WriteString -/
def f99 (X : Task → M Value) (L : LoopI) (x : (Option Addr) × (ByteArray) × Unit) : M Value :=
 M.callS (.tuple []) (X (.call 158 [(.pointer x.1)])) fun (r0_ : Unit) =>
 M.deref x.1 fun a1_ =>
 M.load (.cell .slice) 1 (a1_.add 1) fun (x2_ : (Option Addr × Nat × Nat)) =>
 M.append 5 1 1 x2_.1 x2_.2.1 x2_.2.2 (.string x.2.1) fun a3_ n4_ c5_ =>
 M.deref x.1 fun a6_ =>
 M.store (a6_.add 1) [(.slice a3_ n4_ c5_)]
 (M.pure (.tuple ⟨[(.int .i64 ((x.2.1.size : Nat) : Int)), .nilIface]⟩))

theorem e99 (X : Task → M Value) (L : LoopI) (x : (Option Addr) × (ByteArray) × Unit) : evBody CC { call := X, loop := L } 99 (shsInj [(.cell .ptr), (.cell .string)] x) = f99 X L x := by kernel_rfl

/-- hayrick/files.bare -/
def f101c0 (X : Task → M Value) (L : LoopI) (b1_ : Nat) : M (Value) :=
 M.load (.agg [(.int .i64), (.int .i64), (.int .i64), (.int .i64), (.int .u32), (.int .u32), (.int .u32), (.int .u32), (.int .u32), (.int .u32), (.int .u32)]) 11 (Addr.mk b1_ 0 none) fun (x5_ : Int × Int × Int × Int × Int × Int × Int × Int × Int × Int × Int × Unit) =>
 M.pure (.agg ⟨[(.int .i64 x5_.1), (.int .i64 x5_.2.1), (.int .i64 x5_.2.2.1), (.int .i64 x5_.2.2.2.1), (.int .u32 x5_.2.2.2.2.1), (.int .u32 x5_.2.2.2.2.2.1), (.int .u32 x5_.2.2.2.2.2.2.1), (.int .u32 x5_.2.2.2.2.2.2.2.1), (.int .u32 x5_.2.2.2.2.2.2.2.2.1), (.int .u32 x5_.2.2.2.2.2.2.2.2.2.1), (.int .u32 x5_.2.2.2.2.2.2.2.2.2.2.1)]⟩)
def f101c1 (X : Task → M Value) (L : LoopI) (x : (Int × Int × Int × Int × Int × Int × Int × Int × Int × Int × Int × Unit) × (Int) × Unit) (b0_ : Nat) : M (Value) :=
 M.new (.cells (Row.ofList [(.int .i64 0), (.int .i64 0), (.int .i64 0), (.int .i64 0), (.int .u32 0), (.int .u32 0), (.int .u32 0), (.int .u32 0), (.int .u32 0), (.int .u32 0), (.int .u32 0)]) 117 false (0, 0) false) fun b1_ =>
 M.load (.cell (.int .i64)) 1 ((Addr.mk b0_ 0 none).add 0) fun (x2_ : Int) =>
 M.load (.cell (.int .i64)) 1 ((Addr.mk b0_ 0 none).add 1) fun (x3_ : Int) =>
 M.load (.cell (.int .i64)) 1 ((Addr.mk b0_ 0 none).add 3) fun (x4_ : Int) =>
 M.store (Addr.mk b1_ 0 none) [(.int .i64 x2_), (.int .i64 x3_), (.int .i64 x.2.1), (.int .i64 x4_), (.int .u32 0), (.int .u32 0), (.int .u32 0), (.int .u32 0), (.int .u32 0), (.int .u32 0), (.int .u32 0)]
 (f101c0 X L b1_)
def f101 (X : Task → M Value) (L : LoopI) (x : (Int × Int × Int × Int × Int × Int × Int × Int × Int × Int × Int × Unit) × (Int) × Unit) : M Value :=
 M.new (.cells (Row.ofList [(.int .i64 x.1.1), (.int .i64 x.1.2.1), (.int .i64 x.1.2.2.1), (.int .i64 x.1.2.2.2.1), (.int .u32 x.1.2.2.2.2.1), (.int .u32 x.1.2.2.2.2.2.1), (.int .u32 x.1.2.2.2.2.2.2.1), (.int .u32 x.1.2.2.2.2.2.2.2.1), (.int .u32 x.1.2.2.2.2.2.2.2.2.1), (.int .u32 x.1.2.2.2.2.2.2.2.2.2.1), (.int .u32 x.1.2.2.2.2.2.2.2.2.2.2.1)]) 117 false (0, 0) false) fun b0_ =>
 f101c1 X L x b0_

theorem e101 (X : Task → M Value) (L : LoopI) (x : (Int × Int × Int × Int × Int × Int × Int × Int × Int × Int × Int × Unit) × (Int) × Unit) : evBody CC { call := X, loop := L } 101 (shsInj [(.agg [(.int .i64), (.int .i64), (.int .i64), (.int .i64), (.int .u32), (.int .u32), (.int .u32), (.int .u32), (.int .u32), (.int .u32), (.int .u32)]), (.cell (.int .i64))] x) = f101 X L x := by kernel_rfl

/-- hayrick/inode.May -/
def f102c0 (X : Task → M Value) (L : LoopI) (b0_ : Nat) (r7_ : Int) (v8_ : Int) : M (Value) :=
 M.guard (decide (0 ≤ v8_) && decide (v8_ ≤ ((6 : Nat) : Int)))
 (let v9_ : Nat := (Int.toNat v8_)
 M.join (fun (j10_ : (Bool) × Unit) =>
 M.pure (.bool j10_.1)) fun go11_ =>
 M.callS (.one (.cell .bool)) (X (.call 159 [(.slice (some (((Addr.mk b0_ 0 none).add 4).add (v9_ * 1))) (6 - v9_) (6 - v9_)), (.func (.func 160) ⟨[]⟩ ⟨[]⟩)])) fun (r12_ : Bool) =>
 M.ite (!r12_)
 (M.ite (decide (r7_ > 6))
 (go11_ (true, ()))
 (M.load (.cell (.int .u32)) 1 ((Addr.mk b0_ 0 none).add 10) fun (x15_ : Int) =>
 go11_ ((x15_ == 0), ())))
 (go11_ (false, ())))
def f102c1 (X : Task → M Value) (L : LoopI) (b0_ : Nat) (j2_ : (Int) × (Int) × Unit) (go5_ : ((Bool) × Unit) → M (Value)) (v20_ : Bool) : M (Value) :=
 M.ite v20_
 (go5_ (true, ()))
 (M.load (.cell (.int .i64)) 1 ((Addr.mk b0_ 0 none).add 2) fun (x21_ : Int) =>
 M.ite (decide (x21_ < 0))
 (go5_ (true, ()))
 (M.load (.cell (.int .i64)) 1 ((Addr.mk b0_ 0 none).add 2) fun (x23_ : Int) =>
 M.ite (decide (x23_ > j2_.1))
 (go5_ (true, ()))
 (M.load (.cell (.int .i64)) 1 ((Addr.mk b0_ 0 none).add 3) fun (x25_ : Int) =>
 M.ite (decide (x25_ < 1))
 (go5_ (true, ()))
 (M.load (.cell (.int .i64)) 1 ((Addr.mk b0_ 0 none).add 3) fun (x27_ : Int) =>
 go5_ ((decide (x27_ > j2_.2.1)), ())))))
def f102c2 (X : Task → M Value) (L : LoopI) (b0_ : Nat) (j2_ : (Int) × (Int) × Unit) : M (Value) :=
 M.join (fun (j4_ : (Bool) × Unit) =>
 M.ite j4_.1
 (M.pure (.bool false))
 (M.load (.cell (.int .i64)) 1 ((Addr.mk b0_ 0 none).add 2) fun (x6_ : Int) =>
 M.callS (.one (.cell (.int .i64))) (X (.call 103 [(.int .i64 x6_)])) fun (r7_ : Int) =>
 f102c0 X L b0_ r7_ (if 6 < r7_ then 6 else r7_))) fun go5_ =>
 M.load (.cell (.int .i64)) 1 ((Addr.mk b0_ 0 none).add 0) fun (x17_ : Int) =>
 M.ite (decide (x17_ < 1))
 (go5_ (true, ()))
 (M.load (.cell (.int .i64)) 1 ((Addr.mk b0_ 0 none).add 0) fun (x19_ : Int) =>
 f102c1 X L b0_ j2_ go5_ (decide (x19_ > 64)))
def f102c3 (X : Task → M Value) (L : LoopI) (x : (Int × Int × Int × Int × Int × Int × Int × Int × Int × Int × Int × Unit) × Unit) : M (Value) :=
 M.new (.cells (Row.ofList [(.int .i64 x.1.1), (.int .i64 x.1.2.1), (.int .i64 x.1.2.2.1), (.int .i64 x.1.2.2.2.1), (.int .u32 x.1.2.2.2.2.1), (.int .u32 x.1.2.2.2.2.2.1), (.int .u32 x.1.2.2.2.2.2.2.1), (.int .u32 x.1.2.2.2.2.2.2.2.1), (.int .u32 x.1.2.2.2.2.2.2.2.2.1), (.int .u32 x.1.2.2.2.2.2.2.2.2.2.1), (.int .u32 x.1.2.2.2.2.2.2.2.2.2.2.1)]) 117 false (0, 0) false) fun b0_ =>
 M.load (.cell (.int .i64)) 1 ((Addr.mk b0_ 0 none).add 1) fun (x1_ : Int) =>
 M.join (fun (j2_ : (Int) × (Int) × Unit) =>
 f102c2 X L b0_ j2_) fun go3_ =>
 M.ite (x1_ == 1)
 (go3_ (3808, 64, ()))
 (M.ite (x1_ == 2)
 (M.load (.cell (.int .i64)) 1 ((Addr.mk b0_ 0 none).add 2) fun (x31_ : Int) =>
 M.guard (!(decide (28 = 0)))
 (M.ite (!(((x31_ : Int).tmod 28) == 0))
 (M.pure (.bool false))
 (go3_ (1792, 1, ()))))
 (M.pure (.bool false)))
def f102 (X : Task → M Value) (L : LoopI) (x : (Int × Int × Int × Int × Int × Int × Int × Int × Int × Int × Int × Unit) × Unit) : M Value :=
 f102c3 X L x

theorem e102 (X : Task → M Value) (L : LoopI) (x : (Int × Int × Int × Int × Int × Int × Int × Int × Int × Int × Int × Unit) × Unit) : evBody CC { call := X, loop := L } 102 (shsInj [(.agg [(.int .i64), (.int .i64), (.int .i64), (.int .i64), (.int .u32), (.int .u32), (.int .u32), (.int .u32), (.int .u32), (.int .u32), (.int .u32)])] x) = f102 X L x := by kernel_rfl

/-- hayrick/inode.Blocks -/
def f103 (X : Task → M Value) (L : LoopI) (x : (Int) × Unit) : M Value :=
 M.ite (decide (x.1 ≤ 0))
 (M.pure (.int .i64 0))
 (M.guard (!(decide (112 = 0)))
 (M.pure (.int .i64 (IntKind.i64.wrap ((IntKind.i64.wrap (((IntKind.i64.wrap (x.1 - 1)) : Int).tdiv 112)) + 1)))))

theorem e103 (X : Task → M Value) (L : LoopI) (x : (Int) × Unit) : evBody CC { call := X, loop := L } 103 (shsInj [(.cell (.int .i64))] x) = f103 X L x := by kernel_rfl

/-- (*hayrick/store.Store).Data -/
def f104 (X : Task → M Value) (L : LoopI) (x : (Option Addr) × (Int) × (Int) × ((Option Addr × Nat × Nat)) × (Bool) × Unit) : M Value :=
 M.callS (.tuple [(.cell (.int .u32)), (.cell (.int .i64))]) (X (.call 133 [(.pointer x.1), (.iface 260 (.agg ⟨[(.int .i64 x.2.1), (.int .i64 x.2.2.1), (.slice x.2.2.2.1.1 x.2.2.2.1.2.1 x.2.2.2.1.2.2)]⟩)), (.bool x.2.2.2.2.1)])) fun (r0_ : (Int) × (Int) × Unit) =>
 M.pure (.tuple ⟨[(.int .u32 r0_.1), (.int .i64 r0_.2.1)]⟩)

theorem e104 (X : Task → M Value) (L : LoopI) (x : (Option Addr) × (Int) × (Int) × ((Option Addr × Nat × Nat)) × (Bool) × Unit) : evBody CC { call := X, loop := L } 104 (shsInj [(.cell .ptr), (.cell (.int .i64)), (.cell (.int .i64)), (.cell .slice), (.cell .bool)] x) = f104 X L x := by kernel_rfl

/-- hayrick/files.save -/
def f105c0 (X : Task → M Value) (L : LoopI) (x : (Option Addr) × (Int × Int × Int × Int × Int × Int × Int × Int × Int × Int × Int × Unit) × ((Option Addr × Nat × Nat)) × (Bool) × Unit) (b0_ : Nat) : M (Value) :=
 M.load (.agg [(.int .i64), (.int .i64), (.int .i64), (.int .i64), (.int .u32), (.int .u32), (.int .u32), (.int .u32), (.int .u32), (.int .u32), (.int .u32)]) 11 (Addr.mk b0_ 0 none) fun (x6_ : Int × Int × Int × Int × Int × Int × Int × Int × Int × Int × Int × Unit) =>
 M.callS (.one (.cell (.int .i64))) (X (.call 163 [(.pointer x.1), (.agg ⟨[(.int .i64 x6_.1), (.int .i64 x6_.2.1), (.int .i64 x6_.2.2.1), (.int .i64 x6_.2.2.2.1), (.int .u32 x6_.2.2.2.2.1), (.int .u32 x6_.2.2.2.2.2.1), (.int .u32 x6_.2.2.2.2.2.2.1), (.int .u32 x6_.2.2.2.2.2.2.2.1), (.int .u32 x6_.2.2.2.2.2.2.2.2.1), (.int .u32 x6_.2.2.2.2.2.2.2.2.2.1), (.int .u32 x6_.2.2.2.2.2.2.2.2.2.2.1)]⟩), (.bool x.2.2.2.1)])) fun (r7_ : Int) =>
 M.pure (.int .i64 r7_)
def f105c1 (X : Task → M Value) (L : LoopI) (x : (Option Addr) × (Int × Int × Int × Int × Int × Int × Int × Int × Int × Int × Int × Unit) × ((Option Addr × Nat × Nat)) × (Bool) × Unit) (b0_ : Nat) (j1_ : (Int) × Unit) (r4_ : (Int × Int × Int × Int × Int × Int × Int × Int × Int × Int × Int × Unit) × ((Option Addr × Nat × Nat)) × (Int) × Unit) : M (Value) :=
 M.store (Addr.mk b0_ 0 none) [(.int .i64 r4_.1.1), (.int .i64 r4_.1.2.1), (.int .i64 r4_.1.2.2.1), (.int .i64 r4_.1.2.2.2.1), (.int .u32 r4_.1.2.2.2.2.1), (.int .u32 r4_.1.2.2.2.2.2.1), (.int .u32 r4_.1.2.2.2.2.2.2.1), (.int .u32 r4_.1.2.2.2.2.2.2.2.1), (.int .u32 r4_.1.2.2.2.2.2.2.2.2.1), (.int .u32 r4_.1.2.2.2.2.2.2.2.2.2.1), (.int .u32 r4_.1.2.2.2.2.2.2.2.2.2.2.1)]
 (M.ite (!(r4_.2.2.1 == 0))
 (M.pure (.int .i64 r4_.2.2.1))
 (M.store ((Addr.mk b0_ 0 none).add 10) [(.int .u32 j1_.1)]
 (f105c0 X L x b0_)))
def f105c2 (X : Task → M Value) (L : LoopI) (x : (Option Addr) × (Int × Int × Int × Int × Int × Int × Int × Int × Int × Int × Int × Unit) × ((Option Addr × Nat × Nat)) × (Bool) × Unit) (b0_ : Nat) (j1_ : (Int) × Unit) (x3_ : Int × Int × Int × Int × Int × Int × Int × Int × Int × Int × Int × Unit) : M (Value) :=
 M.callS (.tuple [(.agg [(.int .i64), (.int .i64), (.int .i64), (.int .i64), (.int .u32), (.int .u32), (.int .u32), (.int .u32), (.int .u32), (.int .u32), (.int .u32)]), (.cell .slice), (.cell (.int .i64))]) (X (.call 162 [(.agg ⟨[(.int .i64 x3_.1), (.int .i64 x3_.2.1), (.int .i64 x3_.2.2.1), (.int .i64 x3_.2.2.2.1), (.int .u32 x3_.2.2.2.2.1), (.int .u32 x3_.2.2.2.2.2.1), (.int .u32 x3_.2.2.2.2.2.2.1), (.int .u32 x3_.2.2.2.2.2.2.2.1), (.int .u32 x3_.2.2.2.2.2.2.2.2.1), (.int .u32 x3_.2.2.2.2.2.2.2.2.2.1), (.int .u32 x3_.2.2.2.2.2.2.2.2.2.2.1)]⟩), (.slice x.2.2.1.1 x.2.2.1.2.1 x.2.2.1.2.2)])) fun (r4_ : (Int × Int × Int × Int × Int × Int × Int × Int × Int × Int × Int × Unit) × ((Option Addr × Nat × Nat)) × (Int) × Unit) =>
 f105c1 X L x b0_ j1_ r4_
def f105c3 (X : Task → M Value) (L : LoopI) (x : (Option Addr) × (Int × Int × Int × Int × Int × Int × Int × Int × Int × Int × Int × Unit) × ((Option Addr × Nat × Nat)) × (Bool) × Unit) (b0_ : Nat) (go2_ : ((Int) × Unit) → M (Value)) : M (Value) :=
 M.load (.cell (.int .i64)) 1 ((Addr.mk b0_ 0 none).add 0) fun (x11_ : Int) =>
 M.guard (decide (0 ≤ 6) && decide (6 ≤ ((x.2.2.1.2.1 : Nat) : Int)))
 (let v12_ : Nat := (Int.toNat 6)
 M.callS (.tuple [(.cell (.int .u32)), (.cell (.int .i64))]) (X (.call 161 [(.pointer x.1), (.int .i64 x11_), (.slice (x.2.2.1.1.map (·.add (v12_ * 1))) (x.2.2.1.2.1 - v12_) (x.2.2.1.2.2 - v12_)), (.bool false)])) fun (r13_ : (Int) × (Int) × Unit) =>
 M.ite (!(r13_.2.1 == 0))
 (M.pure (.int .i64 r13_.2.1))
 (go2_ (r13_.1, ())))
def f105c4 (X : Task → M Value) (L : LoopI) (x : (Option Addr) × (Int × Int × Int × Int × Int × Int × Int × Int × Int × Int × Int × Unit) × ((Option Addr × Nat × Nat)) × (Bool) × Unit) (b0_ : Nat) : M (Value) :=
 M.join (fun (j1_ : (Int) × Unit) =>
 M.load (.agg [(.int .i64), (.int .i64), (.int .i64), (.int .i64), (.int .u32), (.int .u32), (.int .u32), (.int .u32), (.int .u32), (.int .u32), (.int .u32)]) 11 (Addr.mk b0_ 0 none) fun (x3_ : Int × Int × Int × Int × Int × Int × Int × Int × Int × Int × Int × Unit) =>
 f105c2 X L x b0_ j1_ x3_) fun go2_ =>
 M.load (.cell (.int .i64)) 1 ((Addr.mk b0_ 0 none).add 2) fun (x8_ : Int) =>
 M.callS (.one (.cell (.int .i64))) (X (.call 103 [(.int .i64 x8_)])) fun (r9_ : Int) =>
 M.ite (decide (r9_ > 6))
 (f105c3 X L x b0_ go2_)
 (go2_ (0, ()))
def f105 (X : Task → M Value) (L : LoopI) (x : (Option Addr) × (Int × Int × Int × Int × Int × Int × Int × Int × Int × Int × Int × Unit) × ((Option Addr × Nat × Nat)) × (Bool) × Unit) : M Value :=
 M.new (.cells (Row.ofList [(.int .i64 x.2.1.1), (.int .i64 x.2.1.2.1), (.int .i64 x.2.1.2.2.1), (.int .i64 x.2.1.2.2.2.1), (.int .u32 x.2.1.2.2.2.2.1), (.int .u32 x.2.1.2.2.2.2.2.1), (.int .u32 x.2.1.2.2.2.2.2.2.1), (.int .u32 x.2.1.2.2.2.2.2.2.2.1), (.int .u32 x.2.1.2.2.2.2.2.2.2.2.1), (.int .u32 x.2.1.2.2.2.2.2.2.2.2.2.1), (.int .u32 x.2.1.2.2.2.2.2.2.2.2.2.2.1)]) 117 false (0, 0) false) fun b0_ =>
 f105c4 X L x b0_

theorem e105 (X : Task → M Value) (L : LoopI) (x : (Option Addr) × (Int × Int × Int × Int × Int × Int × Int × Int × Int × Int × Int × Unit) × ((Option Addr × Nat × Nat)) × (Bool) × Unit) : evBody CC { call := X, loop := L } 105 (shsInj [(.cell .ptr), (.agg [(.int .i64), (.int .i64), (.int .i64), (.int .i64), (.int .u32), (.int .u32), (.int .u32), (.int .u32), (.int .u32), (.int .u32), (.int .u32)]), (.cell .slice), (.cell .bool)] x) = f105 X L x := by kernel_rfl

/-- hayrick/hayrickref11.May -/
def f106c0 (X : Task → M Value) (L : LoopI) (b0_ : Nat) (r7_ : Int) : M (Value) :=
 M.bind (L (σ := (Int) × Unit) (ρ := (Unit) ⊕ (((Bool) × Unit) ⊕ (Unit))) (fun s8_ =>
 M.ite (decide (s8_.1 < 6))
 (M.join (fun (j10_ : (Bool) × Unit) =>
 M.ite j10_.1
 (M.pure (.inr (.inr (.inl (false, ())))))
 (M.pure (.inl ((IntKind.i64.wrap (s8_.1 + 1)), ())))) fun go11_ =>
 M.ite (decide (s8_.1 ≥ r7_))
 (M.guard (decide (0 ≤ s8_.1) && decide (s8_.1 < ((6 : Nat) : Int)))
 (M.load (.cell (.int .u32)) 1 (((Addr.mk b0_ 0 none).add 4).add ((Int.toNat s8_.1) * 1)) fun (x14_ : Int) =>
 go11_ ((!(x14_ == 0)), ())))
 (go11_ (false, ())))
 (M.pure (.inr (.inl (()))))) (0, ())) <| M.sum (fun (j16_ : Unit) =>
 M.join (fun (j17_ : (Bool) × Unit) =>
 M.pure (.bool j17_.1)) fun go18_ =>
 M.ite (decide (r7_ > 6))
 (go18_ (true, ()))
 (M.load (.cell (.int .u32)) 1 ((Addr.mk b0_ 0 none).add 10) fun (x20_ : Int) =>
 go18_ ((x20_ == 0), ()))) (M.sum (fun (j22_ : (Bool) × Unit) =>
 M.pure (.bool j22_.1)) (fun _ => M.stuck))
def f106c1 (X : Task → M Value) (L : LoopI) (b0_ : Nat) (go5_ : (Unit) → M (Value)) : M (Value) :=
 M.join (fun (j33_ : (Bool) × Unit) =>
 M.ite j33_.1
 (M.pure (.bool false))
 (go5_ (()))) fun go34_ =>
 M.load (.cell (.int .i64)) 1 ((Addr.mk b0_ 0 none).add 2) fun (x35_ : Int) =>
 M.ite (decide (x35_ > 1792))
 (go34_ (true, ()))
 (M.load (.cell (.int .i64)) 1 ((Addr.mk b0_ 0 none).add 2) fun (x37_ : Int) =>
 M.guard (!(decide (28 = 0)))
 (M.ite (!(((x37_ : Int).tmod 28) == 0))
 (go34_ (true, ()))
 (M.load (.cell (.int .i64)) 1 ((Addr.mk b0_ 0 none).add 3) fun (x40_ : Int) =>
 go34_ ((!(x40_ == 1)), ()))))
def f106c2 (X : Task → M Value) (L : LoopI) (b0_ : Nat) (x3_ : Int) (go5_ : (Unit) → M (Value)) (v23_ : Bool) : M (Value) :=
 M.ite v23_
 (M.join (fun (j24_ : (Bool) × Unit) =>
 M.ite j24_.1
 (M.pure (.bool false))
 (go5_ (()))) fun go25_ =>
 M.load (.cell (.int .i64)) 1 ((Addr.mk b0_ 0 none).add 2) fun (x26_ : Int) =>
 M.ite (decide (x26_ > 3808))
 (go25_ (true, ()))
 (M.load (.cell (.int .i64)) 1 ((Addr.mk b0_ 0 none).add 3) fun (x28_ : Int) =>
 M.ite (decide (x28_ < 1))
 (go25_ (true, ()))
 (M.load (.cell (.int .i64)) 1 ((Addr.mk b0_ 0 none).add 3) fun (x30_ : Int) =>
 go25_ ((decide (x30_ > 64)), ()))))
 (M.ite (x3_ == 2)
 (f106c1 X L b0_ go5_)
 (M.pure (.bool false)))
def f106c3 (X : Task → M Value) (L : LoopI) (b0_ : Nat) : M (Value) :=
 M.join (fun (j1_ : (Bool) × Unit) =>
 M.ite j1_.1
 (M.pure (.bool false))
 (M.load (.cell (.int .i64)) 1 ((Addr.mk b0_ 0 none).add 1) fun (x3_ : Int) =>
 M.join (fun (j4_ : Unit) =>
 M.load (.cell (.int .i64)) 1 ((Addr.mk b0_ 0 none).add 2) fun (x6_ : Int) =>
 M.callS (.one (.cell (.int .i64))) (X (.call 164 [(.int .i64 x6_)])) fun (r7_ : Int) =>
 f106c0 X L b0_ r7_) fun go5_ =>
 f106c2 X L b0_ x3_ go5_ (x3_ == 1))) fun go2_ =>
 M.load (.cell (.int .i64)) 1 ((Addr.mk b0_ 0 none).add 0) fun (x42_ : Int) =>
 M.ite (decide (x42_ < 1))
 (go2_ (true, ()))
 (M.load (.cell (.int .i64)) 1 ((Addr.mk b0_ 0 none).add 0) fun (x44_ : Int) =>
 M.ite (decide (x44_ > 64))
 (go2_ (true, ()))
 (M.load (.cell (.int .i64)) 1 ((Addr.mk b0_ 0 none).add 2) fun (x46_ : Int) =>
 go2_ ((decide (x46_ < 0)), ())))
def f106 (X : Task → M Value) (L : LoopI) (x : (Int × Int × Int × Int × Int × Int × Int × Int × Int × Int × Int × Unit) × Unit) : M Value :=
 M.new (.cells (Row.ofList [(.int .i64 x.1.1), (.int .i64 x.1.2.1), (.int .i64 x.1.2.2.1), (.int .i64 x.1.2.2.2.1), (.int .u32 x.1.2.2.2.2.1), (.int .u32 x.1.2.2.2.2.2.1), (.int .u32 x.1.2.2.2.2.2.2.1), (.int .u32 x.1.2.2.2.2.2.2.2.1), (.int .u32 x.1.2.2.2.2.2.2.2.2.1), (.int .u32 x.1.2.2.2.2.2.2.2.2.2.1), (.int .u32 x.1.2.2.2.2.2.2.2.2.2.2.1)]) 117 false (0, 0) false) fun b0_ =>
 f106c3 X L b0_

theorem e106 (X : Task → M Value) (L : LoopI) (x : (Int × Int × Int × Int × Int × Int × Int × Int × Int × Int × Int × Unit) × Unit) : evBody CC { call := X, loop := L } 106 (shsInj [(.agg [(.int .i64), (.int .i64), (.int .i64), (.int .i64), (.int .u32), (.int .u32), (.int .u32), (.int .u32), (.int .u32), (.int .u32), (.int .u32)])] x) = f106 X L x := by kernel_rfl

/-- (*hayrick/hayrickref18.Store).Data -/
def f107 (X : Task → M Value) (L : LoopI) (x : (Option Addr) × (Int) × (Int) × ((Option Addr × Nat × Nat)) × (Bool) × Unit) : M Value :=
 M.deref x.1 fun a0_ =>
 M.load (.cell .ptr) 1 (a0_.add 0) fun (x1_ : Option Addr) =>
 M.callS (.tuple [(.cell (.int .u32)), (.cell (.int .i64))]) (X (.call 134 [(.pointer x1_), (.agg ⟨[(.int .i64 1), (.bool x.2.2.2.2.1), (.int .i64 x.2.1), (.int .i64 x.2.2.1)]⟩), (.slice x.2.2.2.1.1 x.2.2.2.1.2.1 x.2.2.2.1.2.2)])) fun (r2_ : (Int) × (Int) × Unit) =>
 M.pure (.tuple ⟨[(.int .u32 r2_.1), (.int .i64 r2_.2.1)]⟩)

theorem e107 (X : Task → M Value) (L : LoopI) (x : (Option Addr) × (Int) × (Int) × ((Option Addr × Nat × Nat)) × (Bool) × Unit) : evBody CC { call := X, loop := L } 107 (shsInj [(.cell .ptr), (.cell (.int .i64)), (.cell (.int .i64)), (.cell .slice), (.cell .bool)] x) = f107 X L x := by kernel_rfl

/-- hayrick/hayrickref19.save -/
def f108c0 (X : Task → M Value) (L : LoopI) (x : (Option Addr) × (Int × Int × Int × Int × Int × Int × Int × Int × Int × Int × Int × Unit) × (Int) × ((Option Addr × Nat × Nat)) × (Bool) × Unit) (s2_ : ((Option Addr × Nat × Nat)) × (Int) × Unit) : M ((((Option Addr × Nat × Nat)) × (Int) × Unit) ⊕ ((((Option Addr × Nat × Nat)) × Unit) ⊕ (Unit))) :=
 M.join (fun (j4_ : (Int) × Unit) =>
 M.new (.cells (Row.ofList [(.int .u32 j4_.1)]) 86 false (0, 0) false) fun b6_ =>
 M.append 86 1 4 s2_.1.1 s2_.1.2.1 s2_.1.2.2 (.slice (some (Addr.mk b6_ 0 none)) 1 1) fun a7_ n8_ c9_ =>
 M.pure (.inl ((a7_, n8_, c9_), (IntKind.i64.wrap (s2_.2.1 + 1)), ()))) fun go5_ =>
 M.ite (decide (s2_.2.1 < ((x.2.2.2.1.2.1 : Nat) : Int)))
 (M.guard (decide (0 ≤ s2_.2.1) && decide (s2_.2.1 < ((x.2.2.2.1.2.1 : Nat) : Int)))
 (M.deref x.2.2.2.1.1 fun a13_ =>
 M.load (.cell (.int .u32)) 1 (a13_.add ((Int.toNat s2_.2.1) * 1)) fun (x14_ : Int) =>
 go5_ (x14_, ())))
 (go5_ (0, ()))
def f108c1 (X : Task → M Value) (L : LoopI) (r1_ : Int) (j15_ : ((Option Addr × Nat × Nat)) × Unit) (b19_ : Nat) (s20_ : (Int) × Unit) : M (((Int) × Unit) ⊕ ((Unit) ⊕ (Unit))) :=
 M.join (fun (j21_ : (Bool) × Unit) =>
 M.ite j21_.1
 (M.guard (decide (0 ≤ s20_.1) && decide (s20_.1 < ((j15_.1.2.1 : Nat) : Int)))
 (M.deref j15_.1.1 fun a23_ =>
 M.load (.cell (.int .u32)) 1 (a23_.add ((Int.toNat s20_.1) * 1)) fun (x24_ : Int) =>
 M.guard (decide (0 ≤ s20_.1) && decide (s20_.1 < ((6 : Nat) : Int)))
 (M.store (((Addr.mk b19_ 0 none).add 4).add ((Int.toNat s20_.1) * 1)) [(.int .u32 x24_)]
 (M.pure (.inl ((IntKind.i64.wrap (s20_.1 + 1)), ()))))))
 (M.pure (.inr (.inl (()))))) fun go22_ =>
 M.ite (decide (s20_.1 < r1_))
 (go22_ ((decide (s20_.1 < 6)), ()))
 (go22_ (false, ()))
def f108c2 (X : Task → M Value) (L : LoopI) (x : (Option Addr) × (Int × Int × Int × Int × Int × Int × Int × Int × Int × Int × Int × Unit) × (Int) × ((Option Addr × Nat × Nat)) × (Bool) × Unit) (b19_ : Nat) : M (Value) :=
 M.load (.agg [(.int .i64), (.int .i64), (.int .i64), (.int .i64), (.int .u32), (.int .u32), (.int .u32), (.int .u32), (.int .u32), (.int .u32), (.int .u32)]) 11 (Addr.mk b19_ 0 none) fun (x31_ : Int × Int × Int × Int × Int × Int × Int × Int × Int × Int × Int × Unit) =>
 M.callS (.one (.cell (.int .i64))) (X (.call 166 [(.pointer x.1), (.agg ⟨[(.int .i64 x31_.1), (.int .i64 x31_.2.1), (.int .i64 x31_.2.2.1), (.int .i64 x31_.2.2.2.1), (.int .u32 x31_.2.2.2.2.1), (.int .u32 x31_.2.2.2.2.2.1), (.int .u32 x31_.2.2.2.2.2.2.1), (.int .u32 x31_.2.2.2.2.2.2.2.1), (.int .u32 x31_.2.2.2.2.2.2.2.2.1), (.int .u32 x31_.2.2.2.2.2.2.2.2.2.1), (.int .u32 x31_.2.2.2.2.2.2.2.2.2.2.1)]⟩), (.bool x.2.2.2.2.1)])) fun (r32_ : Int) =>
 M.pure (.int .i64 r32_)
def f108c3 (X : Task → M Value) (L : LoopI) (x : (Option Addr) × (Int × Int × Int × Int × Int × Int × Int × Int × Int × Int × Int × Unit) × (Int) × ((Option Addr × Nat × Nat)) × (Bool) × Unit) (b0_ : Nat) (j15_ : ((Option Addr × Nat × Nat)) × Unit) (b19_ : Nat) (go30_ : (Unit) → M (Value)) : M (Value) :=
 M.load (.cell (.int .i64)) 1 ((Addr.mk b0_ 0 none).add 0) fun (x34_ : Int) =>
 M.guard (decide (0 ≤ 6) && decide (6 ≤ ((j15_.1.2.1 : Nat) : Int)))
 (let v35_ : Nat := (Int.toNat 6)
 M.callS (.tuple [(.cell (.int .u32)), (.cell (.int .i64))]) (X (.call 165 [(.pointer x.1), (.int .i64 x34_), (.slice (j15_.1.1.map (·.add (v35_ * 1))) (j15_.1.2.1 - v35_) (j15_.1.2.2 - v35_)), (.bool false)])) fun (r36_ : (Int) × (Int) × Unit) =>
 M.ite (!(r36_.2.1 == 0))
 (M.pure (.int .i64 r36_.2.1))
 (M.store ((Addr.mk b19_ 0 none).add 10) [(.int .u32 r36_.1)]
 (go30_ (()))))
def f108c4 (X : Task → M Value) (L : LoopI) (x : (Option Addr) × (Int × Int × Int × Int × Int × Int × Int × Int × Int × Int × Int × Unit) × (Int) × ((Option Addr × Nat × Nat)) × (Bool) × Unit) (b0_ : Nat) (r1_ : Int) (j15_ : ((Option Addr × Nat × Nat)) × Unit) (x16_ : Int) (x17_ : Int) (x18_ : Int) (b19_ : Nat) : M (Value) :=
 M.store (Addr.mk b19_ 0 none) [(.int .i64 x16_), (.int .i64 x17_), (.int .i64 x.2.2.1), (.int .i64 x18_), (.int .u32 0), (.int .u32 0), (.int .u32 0), (.int .u32 0), (.int .u32 0), (.int .u32 0), (.int .u32 0)]
 (M.bind (L (σ := (Int) × Unit) (ρ := (Unit) ⊕ (Unit)) (fun s20_ =>
 f108c1 X L r1_ j15_ b19_ s20_) (0, ())) <| M.sum (fun (j28_ : Unit) =>
 M.join (fun (j29_ : Unit) =>
 f108c2 X L x b19_) fun go30_ =>
 M.ite (decide (r1_ > 6))
 (f108c3 X L x b0_ j15_ b19_ go30_)
 (go30_ (()))) (fun _ => M.stuck))
def f108c5 (X : Task → M Value) (L : LoopI) (x : (Option Addr) × (Int × Int × Int × Int × Int × Int × Int × Int × Int × Int × Int × Unit) × (Int) × ((Option Addr × Nat × Nat)) × (Bool) × Unit) (b0_ : Nat) (r1_ : Int) (j15_ : ((Option Addr × Nat × Nat)) × Unit) : M (Value) :=
 M.load (.cell (.int .i64)) 1 ((Addr.mk b0_ 0 none).add 0) fun (x16_ : Int) =>
 M.load (.cell (.int .i64)) 1 ((Addr.mk b0_ 0 none).add 1) fun (x17_ : Int) =>
 M.load (.cell (.int .i64)) 1 ((Addr.mk b0_ 0 none).add 3) fun (x18_ : Int) =>
 M.new (.cells (Row.ofList [(.int .i64 0), (.int .i64 0), (.int .i64 0), (.int .i64 0), (.int .u32 0), (.int .u32 0), (.int .u32 0), (.int .u32 0), (.int .u32 0), (.int .u32 0), (.int .u32 0)]) 117 false (0, 0) false) fun b19_ =>
 f108c4 X L x b0_ r1_ j15_ x16_ x17_ x18_ b19_
def f108c6 (X : Task → M Value) (L : LoopI) (x : (Option Addr) × (Int × Int × Int × Int × Int × Int × Int × Int × Int × Int × Int × Unit) × (Int) × ((Option Addr × Nat × Nat)) × (Bool) × Unit) : M (Value) :=
 M.new (.cells (Row.ofList [(.int .i64 x.2.1.1), (.int .i64 x.2.1.2.1), (.int .i64 x.2.1.2.2.1), (.int .i64 x.2.1.2.2.2.1), (.int .u32 x.2.1.2.2.2.2.1), (.int .u32 x.2.1.2.2.2.2.2.1), (.int .u32 x.2.1.2.2.2.2.2.2.1), (.int .u32 x.2.1.2.2.2.2.2.2.2.1), (.int .u32 x.2.1.2.2.2.2.2.2.2.2.1), (.int .u32 x.2.1.2.2.2.2.2.2.2.2.2.1), (.int .u32 x.2.1.2.2.2.2.2.2.2.2.2.2.1)]) 117 false (0, 0) false) fun b0_ =>
 M.callS (.one (.cell (.int .i64))) (X (.call 164 [(.int .i64 x.2.2.1)])) fun (r1_ : Int) =>
 M.bind (L (σ := ((Option Addr × Nat × Nat)) × (Int) × Unit) (ρ := (((Option Addr × Nat × Nat)) × Unit) ⊕ (Unit)) (fun s2_ =>
 M.ite (decide (s2_.2.1 < r1_))
 (f108c0 X L x s2_)
 (M.pure (.inr (.inl (s2_.1, ()))))) ((none, 0, 0), 0, ())) <| M.sum (fun (j15_ : ((Option Addr × Nat × Nat)) × Unit) =>
 f108c5 X L x b0_ r1_ j15_) (fun _ => M.stuck)
def f108 (X : Task → M Value) (L : LoopI) (x : (Option Addr) × (Int × Int × Int × Int × Int × Int × Int × Int × Int × Int × Int × Unit) × (Int) × ((Option Addr × Nat × Nat)) × (Bool) × Unit) : M Value :=
 f108c6 X L x

theorem e108 (X : Task → M Value) (L : LoopI) (x : (Option Addr) × (Int × Int × Int × Int × Int × Int × Int × Int × Int × Int × Int × Unit) × (Int) × ((Option Addr × Nat × Nat)) × (Bool) × Unit) : evBody CC { call := X, loop := L } 108 (shsInj [(.cell .ptr), (.agg [(.int .i64), (.int .i64), (.int .i64), (.int .i64), (.int .u32), (.int .u32), (.int .u32), (.int .u32), (.int .u32), (.int .u32), (.int .u32)]), (.cell (.int .i64)), (.cell .slice), (.cell .bool)] x) = f108 X L x := by kernel_rfl

/-- hayrick/hayrickref12.Put -/
def f109c0 (X : Task → M Value) (L : LoopI) (x : ((Option Addr × Nat × Nat)) × Unit) (s2_ : ((Option Addr × Nat × Nat)) × (Int) × Unit) (b5_ : Nat) (s18_ : (Int) × Unit) : M (((Int) × Unit) ⊕ ((Unit) ⊕ (Unit))) :=
 let v23_ : Int := IntKind.i64.wrap (3 + s18_.1)
 M.guard (decide (0 ≤ s2_.2.1) && decide (s2_.2.1 < ((x.1.2.1 : Nat) : Int)))
 (M.deref x.1.1 fun a24_ =>
 M.load (.cell .string) 1 ((a24_.add ((Int.toNat s2_.2.1) * 2)).add 1) fun (x25_ : ByteArray) =>
 M.guard (decide (0 ≤ s18_.1) && decide (s18_.1 < (x25_.size : Int)))
 (M.guard (decide (0 ≤ v23_) && decide (v23_ < (((Int.toNat 28) : Nat) : Int)))
 (M.store ((Addr.mk b5_ 0 none).add ((Int.toNat v23_) * 1)) [(.int .u8 (byteAt x25_ s18_.1))]
 (M.pure (.inl ((IntKind.i64.wrap (s18_.1 + 1)), ()))))))
def f109c1 (X : Task → M Value) (L : LoopI) (x : ((Option Addr × Nat × Nat)) × Unit) (s2_ : ((Option Addr × Nat × Nat)) × (Int) × Unit) (b5_ : Nat) : M ((((Option Addr × Nat × Nat)) × (Int) × Unit) ⊕ ((((Option Addr × Nat × Nat)) × Unit) ⊕ (Unit))) :=
 M.bind (L (σ := (Int) × Unit) (ρ := (Unit) ⊕ (Unit)) (fun s18_ =>
 M.guard (decide (0 ≤ s2_.2.1) && decide (s2_.2.1 < ((x.1.2.1 : Nat) : Int)))
 (M.deref x.1.1 fun a19_ =>
 M.load (.cell .string) 1 ((a19_.add ((Int.toNat s2_.2.1) * 2)).add 1) fun (x20_ : ByteArray) =>
 M.ite (decide (s18_.1 < ((x20_.size : Nat) : Int)))
 (f109c0 X L x s2_ b5_ s18_)
 (M.pure (.inr (.inl (())))))) (0, ())) <| M.sum (fun (j28_ : Unit) =>
 M.append 5 1 1 s2_.1.1 s2_.1.2.1 s2_.1.2.2 (.slice (some (Addr.mk b5_ 0 none)) (Int.toNat 28) (Int.toNat 28)) fun a29_ n30_ c31_ =>
 M.pure (.inl ((a29_, n30_, c31_), (IntKind.i64.wrap (s2_.2.1 + 1)), ()))) (fun _ => M.stuck)
def f109c2 (X : Task → M Value) (L : LoopI) (x : ((Option Addr × Nat × Nat)) × Unit) (s2_ : ((Option Addr × Nat × Nat)) × (Int) × Unit) (b5_ : Nat) (v13_ : Int) : M ((((Option Addr × Nat × Nat)) × (Int) × Unit) ⊕ ((((Option Addr × Nat × Nat)) × Unit) ⊕ (Unit))) :=
 M.guard (decide (0 ≤ 1) && decide (1 < (((Int.toNat 28) : Nat) : Int)))
 (M.store ((Addr.mk b5_ 0 none).add ((Int.toNat 1) * 1)) [(.int .u8 v13_)]
 (M.guard (decide (0 ≤ s2_.2.1) && decide (s2_.2.1 < ((x.1.2.1 : Nat) : Int)))
 (M.deref x.1.1 fun a14_ =>
 M.load (.cell .string) 1 ((a14_.add ((Int.toNat s2_.2.1) * 2)).add 1) fun (x15_ : ByteArray) =>
 M.guard (decide (0 ≤ 2) && decide (2 < (((Int.toNat 28) : Nat) : Int)))
 (M.store ((Addr.mk b5_ 0 none).add ((Int.toNat 2) * 1)) [(.int .u8 (IntKind.u8.wrap ((x15_.size : Nat) : Int)))]
 (f109c1 X L x s2_ b5_)))))
def f109c3 (X : Task → M Value) (L : LoopI) (x : ((Option Addr × Nat × Nat)) × Unit) (s2_ : ((Option Addr × Nat × Nat)) × (Int) × Unit) (b5_ : Nat) (x7_ : Int) : M ((((Option Addr × Nat × Nat)) × (Int) × Unit) ⊕ ((((Option Addr × Nat × Nat)) × Unit) ⊕ (Unit))) :=
 M.guard (!(decide (256 = 0)))
 (M.guard (decide (0 ≤ 0) && decide (0 < (((Int.toNat 28) : Nat) : Int)))
 (M.store ((Addr.mk b5_ 0 none).add ((Int.toNat 0) * 1)) [(.int .u8 (IntKind.u8.wrap (IntKind.i64.wrap ((x7_ : Int).tdiv 256))))]
 (M.guard (decide (0 ≤ s2_.2.1) && decide (s2_.2.1 < ((x.1.2.1 : Nat) : Int)))
 (M.deref x.1.1 fun a10_ =>
 M.load (.cell (.int .i64)) 1 ((a10_.add ((Int.toNat s2_.2.1) * 2)).add 0) fun (x11_ : Int) =>
 M.guard (!(decide (256 = 0)))
 (f109c2 X L x s2_ b5_ (IntKind.u8.wrap ((x11_ : Int).tmod 256)))))))
def f109c4 (X : Task → M Value) (L : LoopI) (x : ((Option Addr × Nat × Nat)) × Unit) : M (Value) :=
 M.bind (L (σ := ((Option Addr × Nat × Nat)) × (Int) × Unit) (ρ := (((Option Addr × Nat × Nat)) × Unit) ⊕ (Unit)) (fun s2_ =>
 M.ite (decide (s2_.2.1 < ((x.1.2.1 : Nat) : Int)))
 (M.guard (decide (0 ≤ 28) && decide (28 ≤ 28) && decide ((1 : Int) * 28 ≤ 2 ^ 48))
 (M.new (.cells (Row.rep [(.int .u8 0)] (Int.toNat 28)) 5 false (0, 0) false) fun b5_ =>
 M.guard (decide (0 ≤ s2_.2.1) && decide (s2_.2.1 < ((x.1.2.1 : Nat) : Int)))
 (M.deref x.1.1 fun a6_ =>
 M.load (.cell (.int .i64)) 1 ((a6_.add ((Int.toNat s2_.2.1) * 2)).add 0) fun (x7_ : Int) =>
 f109c3 X L x s2_ b5_ x7_)))
 (M.pure (.inr (.inl (s2_.1, ()))))) ((none, 0, 0), 0, ())) <| M.sum (fun (j33_ : ((Option Addr × Nat × Nat)) × Unit) =>
 M.pure (.tuple ⟨[(.slice j33_.1.1 j33_.1.2.1 j33_.1.2.2), (.int .i64 0)]⟩)) (fun _ => M.stuck)
def f109 (X : Task → M Value) (L : LoopI) (x : ((Option Addr × Nat × Nat)) × Unit) : M Value :=
 M.callS (.one (.cell .bool)) (X (.call 167 [(.slice x.1.1 x.1.2.1 x.1.2.2)])) fun (r0_ : Bool) =>
 M.ite (!r0_)
 (M.pure (.tuple ⟨[(.slice none 0 0), (.int .i64 1)]⟩))
 (f109c4 X L x)

theorem e109 (X : Task → M Value) (L : LoopI) (x : ((Option Addr × Nat × Nat)) × Unit) : evBody CC { call := X, loop := L } 109 (shsInj [(.cell .slice)] x) = f109 X L x := by kernel_rfl

/-- hayrick/files.Read -/
def f110c0 (X : Task → M Value) (L : LoopI) (x : (Option Addr) × (Int) × (Int) × (Int) × Unit) (b0_ : Nat) (b1_ : Nat) (b2_ : Nat) (b3_ : Nat) (x4_ : Option Addr) : M (Value) :=
 M.callS (.one (.cell (.int .i64))) (X (.call 168 [(.pointer x4_), (.int .i64 x.2.1), (.func (.func 169) ⟨[]⟩ ⟨[(.pointer (some (Addr.mk b1_ 0 none))), (.pointer (some (Addr.mk b2_ 0 none))), (.pointer (some (Addr.mk b0_ 0 none))), (.pointer (some (Addr.mk b3_ 0 none)))]⟩)])) fun (r5_ : Int) =>
 M.load (.cell .slice) 1 (Addr.mk b3_ 0 none) fun (x6_ : (Option Addr × Nat × Nat)) =>
 M.store (Addr.mk b3_ 0 none) [(.slice x6_.1 x6_.2.1 x6_.2.2)]
 (M.load (.cell .slice) 1 (Addr.mk b3_ 0 none) fun (x7_ : (Option Addr × Nat × Nat)) =>
 M.pure (.tuple ⟨[(.slice x7_.1 x7_.2.1 x7_.2.2), (.int .i64 r5_)]⟩))
def f110 (X : Task → M Value) (L : LoopI) (x : (Option Addr) × (Int) × (Int) × (Int) × Unit) : M Value :=
 M.new (.cells (Row.ofList [(.pointer x.1)]) 64 false (0, 0) false) fun b0_ =>
 M.new (.cells (Row.ofList [(.int .i64 x.2.2.1)]) 3 false (0, 0) false) fun b1_ =>
 M.new (.cells (Row.ofList [(.int .i64 x.2.2.2.1)]) 3 false (0, 0) false) fun b2_ =>
 M.new (.cells (Row.ofList [(.slice none 0 0)]) 30 false (0, 0) false) fun b3_ =>
 M.load (.cell .ptr) 1 (Addr.mk b0_ 0 none) fun (x4_ : Option Addr) =>
 f110c0 X L x b0_ b1_ b2_ b3_ x4_

theorem e110 (X : Task → M Value) (L : LoopI) (x : (Option Addr) × (Int) × (Int) × (Int) × Unit) : evBody CC { call := X, loop := L } 110 (shsInj [(.cell .ptr), (.cell (.int .i64)), (.cell (.int .i64)), (.cell (.int .i64))] x) = f110 X L x := by kernel_rfl

/-- (*hayrick/store.Store).Load -/
def f112c0 (X : Task → M Value) (L : LoopI) (b0_ : Nat) (r1_ : Int) : M (Value) :=
 M.load (.agg [(.int .i64), (.int .i64), (.int .i64), (.int .i64), (.int .u32), (.int .u32), (.int .u32), (.int .u32), (.int .u32), (.int .u32), (.int .u32)]) 11 (Addr.mk b0_ 0 none) fun (x3_ : Int × Int × Int × Int × Int × Int × Int × Int × Int × Int × Int × Unit) =>
 M.pure (.tuple ⟨[(.agg ⟨[(.int .i64 x3_.1), (.int .i64 x3_.2.1), (.int .i64 x3_.2.2.1), (.int .i64 x3_.2.2.2.1), (.int .u32 x3_.2.2.2.2.1), (.int .u32 x3_.2.2.2.2.2.1), (.int .u32 x3_.2.2.2.2.2.2.1), (.int .u32 x3_.2.2.2.2.2.2.2.1), (.int .u32 x3_.2.2.2.2.2.2.2.2.1), (.int .u32 x3_.2.2.2.2.2.2.2.2.2.1), (.int .u32 x3_.2.2.2.2.2.2.2.2.2.2.1)]⟩), (.int .i64 r1_)]⟩)
def f112c1 (X : Task → M Value) (L : LoopI) (b0_ : Nat) : M (Value) :=
 M.load (.agg [(.int .i64), (.int .i64), (.int .i64), (.int .i64), (.int .u32), (.int .u32), (.int .u32), (.int .u32), (.int .u32), (.int .u32), (.int .u32)]) 11 (Addr.mk b0_ 0 none) fun (x8_ : Int × Int × Int × Int × Int × Int × Int × Int × Int × Int × Int × Unit) =>
 M.pure (.tuple ⟨[(.agg ⟨[(.int .i64 x8_.1), (.int .i64 x8_.2.1), (.int .i64 x8_.2.2.1), (.int .i64 x8_.2.2.2.1), (.int .u32 x8_.2.2.2.2.1), (.int .u32 x8_.2.2.2.2.2.1), (.int .u32 x8_.2.2.2.2.2.2.1), (.int .u32 x8_.2.2.2.2.2.2.2.1), (.int .u32 x8_.2.2.2.2.2.2.2.2.1), (.int .u32 x8_.2.2.2.2.2.2.2.2.2.1), (.int .u32 x8_.2.2.2.2.2.2.2.2.2.2.1)]⟩), (.int .i64 6)]⟩)
def f112c2 (X : Task → M Value) (L : LoopI) (b0_ : Nat) (r11_ : ((Option Addr × Nat × Nat)) × (Int) × Unit) : M (Value) :=
 M.load (.agg [(.int .i64), (.int .i64), (.int .i64), (.int .i64), (.int .u32), (.int .u32), (.int .u32), (.int .u32), (.int .u32), (.int .u32), (.int .u32)]) 11 (Addr.mk b0_ 0 none) fun (x13_ : Int × Int × Int × Int × Int × Int × Int × Int × Int × Int × Int × Unit) =>
 M.pure (.tuple ⟨[(.agg ⟨[(.int .i64 x13_.1), (.int .i64 x13_.2.1), (.int .i64 x13_.2.2.1), (.int .i64 x13_.2.2.2.1), (.int .u32 x13_.2.2.2.2.1), (.int .u32 x13_.2.2.2.2.2.1), (.int .u32 x13_.2.2.2.2.2.2.1), (.int .u32 x13_.2.2.2.2.2.2.2.1), (.int .u32 x13_.2.2.2.2.2.2.2.2.1), (.int .u32 x13_.2.2.2.2.2.2.2.2.2.1), (.int .u32 x13_.2.2.2.2.2.2.2.2.2.2.1)]⟩), (.int .i64 r11_.2.1)]⟩)
def f112c3 (X : Task → M Value) (L : LoopI) (b0_ : Nat) : M (Value) :=
 M.load (.agg [(.int .i64), (.int .i64), (.int .i64), (.int .i64), (.int .u32), (.int .u32), (.int .u32), (.int .u32), (.int .u32), (.int .u32), (.int .u32)]) 11 (Addr.mk b0_ 0 none) fun (x18_ : Int × Int × Int × Int × Int × Int × Int × Int × Int × Int × Int × Unit) =>
 M.pure (.tuple ⟨[(.agg ⟨[(.int .i64 x18_.1), (.int .i64 x18_.2.1), (.int .i64 x18_.2.2.1), (.int .i64 x18_.2.2.2.1), (.int .u32 x18_.2.2.2.2.1), (.int .u32 x18_.2.2.2.2.2.1), (.int .u32 x18_.2.2.2.2.2.2.1), (.int .u32 x18_.2.2.2.2.2.2.2.1), (.int .u32 x18_.2.2.2.2.2.2.2.2.1), (.int .u32 x18_.2.2.2.2.2.2.2.2.2.1), (.int .u32 x18_.2.2.2.2.2.2.2.2.2.2.1)]⟩), (.int .i64 5)]⟩)
def f112c4 (X : Task → M Value) (L : LoopI) (b0_ : Nat) : M (Value) :=
 M.load (.agg [(.int .i64), (.int .i64), (.int .i64), (.int .i64), (.int .u32), (.int .u32), (.int .u32), (.int .u32), (.int .u32), (.int .u32), (.int .u32)]) 11 (Addr.mk b0_ 0 none) fun (x20_ : Int × Int × Int × Int × Int × Int × Int × Int × Int × Int × Int × Unit) =>
 M.pure (.tuple ⟨[(.agg ⟨[(.int .i64 x20_.1), (.int .i64 x20_.2.1), (.int .i64 x20_.2.2.1), (.int .i64 x20_.2.2.2.1), (.int .u32 x20_.2.2.2.2.1), (.int .u32 x20_.2.2.2.2.2.1), (.int .u32 x20_.2.2.2.2.2.2.1), (.int .u32 x20_.2.2.2.2.2.2.2.1), (.int .u32 x20_.2.2.2.2.2.2.2.2.1), (.int .u32 x20_.2.2.2.2.2.2.2.2.2.1), (.int .u32 x20_.2.2.2.2.2.2.2.2.2.2.1)]⟩), (.int .i64 0)]⟩)
def f112c5 (X : Task → M Value) (L : LoopI) (b0_ : Nat) (b15_ : Nat) : M (Value) :=
 M.load (.agg [(.int .i64), (.int .i64), (.int .i64), (.int .i64), (.int .u32), (.int .u32), (.int .u32), (.int .u32), (.int .u32), (.int .u32), (.int .u32)]) 11 (Addr.mk b15_ 0 none) fun (x19_ : Int × Int × Int × Int × Int × Int × Int × Int × Int × Int × Int × Unit) =>
 M.store (Addr.mk b0_ 0 none) [(.int .i64 x19_.1), (.int .i64 x19_.2.1), (.int .i64 x19_.2.2.1), (.int .i64 x19_.2.2.2.1), (.int .u32 x19_.2.2.2.2.1), (.int .u32 x19_.2.2.2.2.2.1), (.int .u32 x19_.2.2.2.2.2.2.1), (.int .u32 x19_.2.2.2.2.2.2.2.1), (.int .u32 x19_.2.2.2.2.2.2.2.2.1), (.int .u32 x19_.2.2.2.2.2.2.2.2.2.1), (.int .u32 x19_.2.2.2.2.2.2.2.2.2.2.1)]
 (f112c4 X L b0_)
def f112c6 (X : Task → M Value) (L : LoopI) (x : (Option Addr) × (Int) × Unit) (b0_ : Nat) (r14_ : (Int × Int × Int × Int × Int × Int × Int × Int × Int × Int × Int × Unit) × (Int) × Unit) (b15_ : Nat) : M (Value) :=
 M.store (Addr.mk b15_ 0 none) [(.int .i64 r14_.1.1), (.int .i64 r14_.1.2.1), (.int .i64 r14_.1.2.2.1), (.int .i64 r14_.1.2.2.2.1), (.int .u32 r14_.1.2.2.2.2.1), (.int .u32 r14_.1.2.2.2.2.2.1), (.int .u32 r14_.1.2.2.2.2.2.2.1), (.int .u32 r14_.1.2.2.2.2.2.2.2.1), (.int .u32 r14_.1.2.2.2.2.2.2.2.2.1), (.int .u32 r14_.1.2.2.2.2.2.2.2.2.2.1), (.int .u32 r14_.1.2.2.2.2.2.2.2.2.2.2.1)]
 (M.join (fun (j16_ : (Bool) × Unit) =>
 M.ite j16_.1
 (M.store (Addr.mk b0_ 0 none) [(.int .i64 0), (.int .i64 0), (.int .i64 0), (.int .i64 0), (.int .u32 0), (.int .u32 0), (.int .u32 0), (.int .u32 0), (.int .u32 0), (.int .u32 0), (.int .u32 0)]
 (f112c3 X L b0_))
 (f112c5 X L b0_ b15_)) fun go17_ =>
 M.ite (!(r14_.2.1 == 0))
 (go17_ (true, ()))
 (M.load (.cell (.int .i64)) 1 ((Addr.mk b15_ 0 none).add 0) fun (x22_ : Int) =>
 go17_ ((!(x22_ == x.2.1)), ())))
def f112c7 (X : Task → M Value) (L : LoopI) (x : (Option Addr) × (Int) × Unit) (b0_ : Nat) (r11_ : ((Option Addr × Nat × Nat)) × (Int) × Unit) : M (Value) :=
 M.callS (.tuple [(.agg [(.int .i64), (.int .i64), (.int .i64), (.int .i64), (.int .u32), (.int .u32), (.int .u32), (.int .u32), (.int .u32), (.int .u32), (.int .u32)]), (.cell (.int .i64))]) (X (.call 175 [(.slice r11_.1.1 r11_.1.2.1 r11_.1.2.2)])) fun (r14_ : (Int × Int × Int × Int × Int × Int × Int × Int × Int × Int × Int × Unit) × (Int) × Unit) =>
 M.new (.cells (Row.ofList [(.int .i64 0), (.int .i64 0), (.int .i64 0), (.int .i64 0), (.int .u32 0), (.int .u32 0), (.int .u32 0), (.int .u32 0), (.int .u32 0), (.int .u32 0), (.int .u32 0)]) 117 false (0, 0) false) fun b15_ =>
 f112c6 X L x b0_ r14_ b15_
def f112c8 (X : Task → M Value) (L : LoopI) (x : (Option Addr) × (Int) × Unit) (b0_ : Nat) (x6_ : Int) : M (Value) :=
 M.deref x.1 fun a9_ =>
 M.load (.cell .ptr) 1 (a9_.add 0) fun (x10_ : Option Addr) =>
 M.callS (.tuple [(.cell .slice), (.cell (.int .i64))]) (X (.call 174 [(.pointer x10_), (.int .u32 x6_)])) fun (r11_ : ((Option Addr × Nat × Nat)) × (Int) × Unit) =>
 M.ite (!(r11_.2.1 == 0))
 (M.store (Addr.mk b0_ 0 none) [(.int .i64 0), (.int .i64 0), (.int .i64 0), (.int .i64 0), (.int .u32 0), (.int .u32 0), (.int .u32 0), (.int .u32 0), (.int .u32 0), (.int .u32 0), (.int .u32 0)]
 (f112c2 X L b0_ r11_))
 (f112c7 X L x b0_ r11_)
def f112c9 (X : Task → M Value) (L : LoopI) (x : (Option Addr) × (Int) × Unit) (b0_ : Nat) (r1_ : Int) (v2_ : Bool) : M (Value) :=
 M.ite v2_
 (M.store (Addr.mk b0_ 0 none) [(.int .i64 0), (.int .i64 0), (.int .i64 0), (.int .i64 0), (.int .u32 0), (.int .u32 0), (.int .u32 0), (.int .u32 0), (.int .u32 0), (.int .u32 0), (.int .u32 0)]
 (f112c0 X L b0_ r1_))
 (let v4_ : Int := IntKind.i64.wrap (x.2.1 - 1)
 M.deref x.1 fun a5_ =>
 M.guard (decide (0 ≤ v4_) && decide (v4_ < ((64 : Nat) : Int)))
 (M.load (.cell (.int .u32)) 1 ((a5_.add 1).add ((Int.toNat v4_) * 1)) fun (x6_ : Int) =>
 M.ite (x6_ == 0)
 (M.store (Addr.mk b0_ 0 none) [(.int .i64 0), (.int .i64 0), (.int .i64 0), (.int .i64 0), (.int .u32 0), (.int .u32 0), (.int .u32 0), (.int .u32 0), (.int .u32 0), (.int .u32 0), (.int .u32 0)]
 (f112c1 X L b0_))
 (f112c8 X L x b0_ x6_)))
def f112 (X : Task → M Value) (L : LoopI) (x : (Option Addr) × (Int) × Unit) : M Value :=
 M.new (.cells (Row.ofList [(.int .i64 0), (.int .i64 0), (.int .i64 0), (.int .i64 0), (.int .u32 0), (.int .u32 0), (.int .u32 0), (.int .u32 0), (.int .u32 0), (.int .u32 0), (.int .u32 0)]) 117 false (0, 0) false) fun b0_ =>
 M.callS (.one (.cell (.int .i64))) (X (.call 132 [(.pointer x.1), (.int .i64 x.2.1)])) fun (r1_ : Int) =>
 f112c9 X L x b0_ r1_ (!(r1_ == 0))

theorem e112 (X : Task → M Value) (L : LoopI) (x : (Option Addr) × (Int) × Unit) : evBody CC { call := X, loop := L } 112 (shsInj [(.cell .ptr), (.cell (.int .i64))] x) = f112 X L x := by kernel_rfl

/-- slices.IndexFunc[[]hayrick/api.Entry,hayrick/api.Entry] -/
def f113c0 (X : Task → M Value) (L : LoopI) (x : ((Option Addr × Nat × Nat)) × (Value) × Unit) (v0_ : Int) (s1_ : (Int) × Unit) : M (((Int) × Unit) ⊕ ((Unit) ⊕ (((Int) × Unit) ⊕ (Unit)))) :=
 M.ite (decide (s1_.1 < v0_))
 (M.guard (decide (0 ≤ s1_.1) && decide (s1_.1 < ((x.1.2.1 : Nat) : Int)))
 (M.deref x.1.1 fun a3_ =>
 M.load (.agg [(.int .i64), .string]) 2 (a3_.add ((Int.toNat s1_.1) * 2)) fun (x4_ : Int × ByteArray × Unit) =>
 callV CC ⟨X, L⟩ x.2.1 [(.agg ⟨[(.int .i64 x4_.1), (.string x4_.2.1)]⟩)] fun w6_ => M.need (RSh.prj (.one (.cell .bool)) w6_) fun (r5_ : Bool) =>
 M.ite r5_
 (M.pure (.inr (.inr (.inl (s1_.1, ())))))
 (M.pure (.inl ((IntKind.i64.wrap (s1_.1 + 1)), ())))))
 (M.pure (.inr (.inl (()))))
def f113 (X : Task → M Value) (L : LoopI) (x : ((Option Addr × Nat × Nat)) × (Value) × Unit) : M Value :=
 M.bind (L (σ := (Int) × Unit) (ρ := (Unit) ⊕ (((Int) × Unit) ⊕ (Unit))) (fun s1_ =>
 f113c0 X L x ((x.1.2.1 : Nat) : Int) s1_) (0, ())) <| M.sum (fun (j8_ : Unit) =>
 M.pure (.int .i64 (-1))) (M.sum (fun (j9_ : (Int) × Unit) =>
 M.pure (.int .i64 j9_.1)) (fun _ => M.stuck))

theorem e113 (X : Task → M Value) (L : LoopI) (x : ((Option Addr × Nat × Nat)) × (Value) × Unit) : evBody CC { call := X, loop := L } 113 (shsInj [(.cell .slice), (.cell .val)] x) = f113 X L x := by kernel_rfl

/-- hayrick/entry.Find$1 -/
def f114 (X : Task → M Value) (L : LoopI) (x : (Int × ByteArray × Unit) × (Option Addr) × Unit) : M Value :=
 M.new (.cells (Row.ofList [(.int .i64 x.1.1), (.string x.1.2.1)]) 78 false (0, 0) false) fun b0_ =>
 M.load (.cell .string) 1 ((Addr.mk b0_ 0 none).add 1) fun (x1_ : ByteArray) =>
 M.deref x.2.1 fun a2_ =>
 M.load (.cell .string) 1 a2_ fun (x3_ : ByteArray) =>
 M.callS (.one (.cell (.int .i64))) (X (.call 115 [(.string x1_), (.string x3_)])) fun (r4_ : Int) =>
 M.pure (.bool (decide (r4_ ≥ 0)))

theorem e114 (X : Task → M Value) (L : LoopI) (x : (Int × ByteArray × Unit) × (Option Addr) × Unit) : evBody CC { call := X, loop := L } 114 (shsInj [(.agg [(.int .i64), .string]), (.cell .ptr)] x) = f114 X L x := by kernel_rfl

/-- hayrick/names.Compare -/
def f115c0 (X : Task → M Value) (L : LoopI) (x : (ByteArray) × (ByteArray) × Unit) : M (Value) :=
 M.callS (.one (.cell .slice)) (X (.call 177 [(.string x.1)])) fun (r0_ : (Option Addr × Nat × Nat)) =>
 M.callS (.one (.cell .slice)) (X (.call 177 [(.string x.2.1)])) fun (r1_ : (Option Addr × Nat × Nat)) =>
 M.callS (.one (.cell (.int .i64))) (X (.call 176 [(.slice r0_.1 r0_.2.1 r0_.2.2), (.slice r1_.1 r1_.2.1 r1_.2.2)])) fun (r2_ : Int) =>
 M.ite (!(r2_ == 0))
 (M.pure (.int .i64 r2_))
 (M.callS (.one (.cell (.int .i64))) (X (.call 178 [(.string x.1), (.string x.2.1)])) fun (r4_ : Int) =>
 M.pure (.int .i64 r4_))
def f115 (X : Task → M Value) (L : LoopI) (x : (ByteArray) × (ByteArray) × Unit) : M Value :=
 f115c0 X L x

theorem e115 (X : Task → M Value) (L : LoopI) (x : (ByteArray) × (ByteArray) × Unit) : evBody CC { call := X, loop := L } 115 (shsInj [(.cell .string), (.cell .string)] x) = f115 X L x := by kernel_rfl

/-- hayrick/entry.May -/
def f116c0 (X : Task → M Value) (L : LoopI) (x : ((Option Addr × Nat × Nat)) × Unit) (s3_ : (Int) × Unit) (b7_ : Nat) (go9_ : ((Bool) × Unit) → M (((Int) × Unit) ⊕ ((Unit) ⊕ (((Bool) × Unit) ⊕ (Unit))))) : M (((Int) × Unit) ⊕ ((Unit) ⊕ (((Bool) × Unit) ⊕ (Unit)))) :=
 M.ite (decide (s3_.1 > 0))
 (let v18_ : Int := IntKind.i64.wrap (s3_.1 - 1)
 M.guard (decide (0 ≤ v18_) && decide (v18_ < ((x.1.2.1 : Nat) : Int)))
 (M.deref x.1.1 fun a19_ =>
 M.load (.cell .string) 1 ((a19_.add ((Int.toNat v18_) * 2)).add 1) fun (x20_ : ByteArray) =>
 M.load (.cell .string) 1 ((Addr.mk b7_ 0 none).add 1) fun (x21_ : ByteArray) =>
 M.callS (.one (.cell (.int .i64))) (X (.call 115 [(.string x20_), (.string x21_)])) fun (r22_ : Int) =>
 go9_ ((decide (r22_ ≥ 0)), ())))
 (go9_ (false, ()))
def f116c1 (X : Task → M Value) (L : LoopI) (x : ((Option Addr × Nat × Nat)) × Unit) (s3_ : (Int) × Unit) (b7_ : Nat) : M (((Int) × Unit) ⊕ ((Unit) ⊕ (((Bool) × Unit) ⊕ (Unit)))) :=
 M.join (fun (j8_ : (Bool) × Unit) =>
 M.ite j8_.1
 (M.pure (.inr (.inr (.inl (false, ())))))
 (M.pure (.inl ((IntKind.i64.wrap (s3_.1 + 1)), ())))) fun go9_ =>
 M.load (.cell (.int .i64)) 1 ((Addr.mk b7_ 0 none).add 0) fun (x11_ : Int) =>
 M.callS (.one (.cell .bool)) (X (.call 119 [(.int .i64 x11_)])) fun (r12_ : Bool) =>
 M.ite (!r12_)
 (go9_ (true, ()))
 (M.load (.cell .string) 1 ((Addr.mk b7_ 0 none).add 1) fun (x14_ : ByteArray) =>
 M.callS (.one (.cell .bool)) (X (.call 49 [(.string x14_)])) fun (r15_ : Bool) =>
 M.ite (!r15_)
 (go9_ (true, ()))
 (f116c0 X L x s3_ b7_ go9_))
def f116c2 (X : Task → M Value) (L : LoopI) (x : ((Option Addr × Nat × Nat)) × Unit) (v2_ : Int) : M (Value) :=
 M.bind (L (σ := (Int) × Unit) (ρ := (Unit) ⊕ (((Bool) × Unit) ⊕ (Unit))) (fun s3_ =>
 M.ite (decide (s3_.1 < v2_))
 (M.guard (decide (0 ≤ s3_.1) && decide (s3_.1 < ((x.1.2.1 : Nat) : Int)))
 (M.deref x.1.1 fun a5_ =>
 M.load (.agg [(.int .i64), .string]) 2 (a5_.add ((Int.toNat s3_.1) * 2)) fun (x6_ : Int × ByteArray × Unit) =>
 M.new (.cells (Row.ofList [(.int .i64 0), (.string st0)]) 78 false (0, 0) false) fun b7_ =>
 M.store (Addr.mk b7_ 0 none) [(.int .i64 x6_.1), (.string x6_.2.1)]
 (f116c1 X L x s3_ b7_)))
 (M.pure (.inr (.inl (()))))) (0, ())) <| M.sum (fun (j24_ : Unit) =>
 M.pure (.bool true)) (M.sum (fun (j25_ : (Bool) × Unit) =>
 M.pure (.bool j25_.1)) (fun _ => M.stuck))
def f116 (X : Task → M Value) (L : LoopI) (x : ((Option Addr × Nat × Nat)) × Unit) : M Value :=
 M.ite (decide (((x.1.2.1 : Nat) : Int) > 64))
 (M.pure (.bool false))
 (f116c2 X L x ((x.1.2.1 : Nat) : Int))

theorem e116 (X : Task → M Value) (L : LoopI) (x : ((Option Addr × Nat × Nat)) × Unit) : evBody CC { call := X, loop := L } 116 (shsInj [(.cell .slice)] x) = f116 X L x := by kernel_rfl

/-- hayrick/entry.may -/
def f119 (X : Task → M Value) (L : LoopI) (x : (Int) × Unit) : M Value :=
 M.join (fun (j0_ : (Bool) × Unit) =>
 M.pure (.bool j0_.1)) fun go1_ =>
 M.ite (decide (x.1 ≥ 1))
 (go1_ ((decide (x.1 ≤ 64)), ()))
 (go1_ (false, ()))

theorem e119 (X : Task → M Value) (L : LoopI) (x : (Int) × Unit) : evBody CC { call := X, loop := L } 119 (shsInj [(.cell (.int .i64))] x) = f119 X L x := by kernel_rfl

/-- hayrick/hayricklaw08.Made -/
def f121c0 (X : Task → M Value) (L : LoopI) (x : (Int) × (Int) × (Int) × (Int) × Unit) (b1_ : Nat) (r9_ : (Option Addr) × (Int) × Unit) (r13_ : (Option Addr) × (Int) × Unit) : M (Value) :=
 M.load (.agg [(.int .i64), (.int .i64), (.int .i64)]) 3 (Addr.mk b1_ 0 none) fun (x14_ : Int × Int × Int × Unit) =>
 M.callS (.tuple [(.cell .ptr), (.cell (.int .i64))]) (X (.call 184 [(.pointer r9_.1), (.agg ⟨[(.int .i64 x14_.1), (.int .i64 x14_.2.1), (.int .i64 x14_.2.2.1)]⟩), (.int .i64 x.2.2.2.1)])) fun (r15_ : (Option Addr) × (Int) × Unit) =>
 M.join (fun (j16_ : (Bool) × Unit) =>
 M.ite j16_.1
 (M.pure (.tuple ⟨[(.pointer none), (.pointer none)]⟩))
 (M.pure (.tuple ⟨[(.pointer r13_.1), (.pointer r15_.1)]⟩))) fun go17_ =>
 M.ite (!(r13_.2.1 == 0))
 (go17_ (true, ()))
 (go17_ ((!(r15_.2.1 == 0)), ()))
def f121c1 (X : Task → M Value) (L : LoopI) (x : (Int) × (Int) × (Int) × (Int) × Unit) (b1_ : Nat) (r5_ : (Option Addr) × (Int) × Unit) (r9_ : (Option Addr) × (Int) × Unit) : M (Value) :=
 M.join (fun (j10_ : (Bool) × Unit) =>
 M.ite j10_.1
 (M.pure (.tuple ⟨[(.pointer none), (.pointer none)]⟩))
 (M.load (.agg [(.int .i64), (.int .i64), (.int .i64)]) 3 (Addr.mk b1_ 0 none) fun (x12_ : Int × Int × Int × Unit) =>
 M.callS (.tuple [(.cell .ptr), (.cell (.int .i64))]) (X (.call 183 [(.pointer r5_.1), (.agg ⟨[(.int .i64 x12_.1), (.int .i64 x12_.2.1), (.int .i64 x12_.2.2.1)]⟩), (.int .i64 x.2.2.2.1)])) fun (r13_ : (Option Addr) × (Int) × Unit) =>
 f121c0 X L x b1_ r9_ r13_)) fun go11_ =>
 M.ite (!(r5_.2.1 == 0))
 (go11_ (true, ()))
 (go11_ ((!(r9_.2.1 == 0)), ()))
def f121c2 (X : Task → M Value) (L : LoopI) (x : (Int) × (Int) × (Int) × (Int) × Unit) (b1_ : Nat) (x2_ : Int) : M (Value) :=
 M.callS (.tuple [(.cell .ptr), (.cell (.int .i64))]) (X (.call 181 [(.int .i64 x2_), (.int .i64 (IntKind.i64.wrap (x.2.2.2.1 + (IntKind.i64.wrap (8 * x.2.2.1)))))])) fun (r5_ : (Option Addr) × (Int) × Unit) =>
 M.load (.cell (.int .i64)) 1 ((Addr.mk b1_ 0 none).add 1) fun (x6_ : Int) =>
 M.callS (.tuple [(.cell .ptr), (.cell (.int .i64))]) (X (.call 182 [(.int .i64 x6_), (.int .i64 (IntKind.i64.wrap (x.2.2.2.1 + (IntKind.i64.wrap (8 * x.2.2.1)))))])) fun (r9_ : (Option Addr) × (Int) × Unit) =>
 f121c1 X L x b1_ r5_ r9_
def f121 (X : Task → M Value) (L : LoopI) (x : (Int) × (Int) × (Int) × (Int) × Unit) : M Value :=
 M.new (.cells (Row.ofList [(.int .i64 0), (.int .i64 0), (.int .i64 0)]) 24 false (0, 0) false) fun b1_ =>
 M.store (Addr.mk b1_ 0 none) [(.int .i64 x.1), (.int .i64 (IntKind.i64.wrap (x.1 + x.2.1))), (.int .i64 x.2.2.1)]
 (M.load (.cell (.int .i64)) 1 ((Addr.mk b1_ 0 none).add 1) fun (x2_ : Int) =>
 f121c2 X L x b1_ x2_)

theorem e121 (X : Task → M Value) (L : LoopI) (x : (Int) × (Int) × (Int) × (Int) × Unit) : evBody CC { call := X, loop := L } 121 (shsInj [(.cell (.int .i64)), (.cell (.int .i64)), (.cell (.int .i64)), (.cell (.int .i64))] x) = f121 X L x := by kernel_rfl

/-- hayrick/logs.New -/
def f122c0 (X : Task → M Value) (L : LoopI) (x : (Option Addr) × (Int) × ((Option Addr × Nat × Nat)) × ((Option Addr × Nat × Nat)) × Unit) : M (Value) :=
 M.callS (.one (.cell .slice)) (X (.call 187 [(.slice x.2.2.1.1 x.2.2.1.2.1 x.2.2.1.2.2)])) fun (r5_ : (Option Addr × Nat × Nat)) =>
 M.callS (.one (.cell .slice)) (X (.call 188 [(.slice x.2.2.2.1.1 x.2.2.2.1.2.1 x.2.2.2.1.2.2)])) fun (r6_ : (Option Addr × Nat × Nat)) =>
 M.new (.cells (Row.ofList [(.pointer x.1), (.int .u64 x.2.1), (.slice r5_.1 r5_.2.1 r5_.2.2), (.slice r6_.1 r6_.2.1 r6_.2.2), (.int .i64 (-1)), (.slice none 0 0), (.slice none 0 0), (.bool false)]) 233 false (0, 0) false) fun b7_ =>
 M.pure (.tuple ⟨[(.pointer (some (Addr.mk b7_ 0 none))), (.int .i64 0)]⟩)
def f122c1 (X : Task → M Value) (L : LoopI) (x : (Option Addr) × (Int) × ((Option Addr × Nat × Nat)) × ((Option Addr × Nat × Nat)) × Unit) : M (Value) :=
 M.callS (.one (.agg [(.int .i64), (.int .i64), (.int .i64)])) (X (.call 185 [(.pointer x.1)])) fun (r2_ : Int × Int × Int × Unit) =>
 M.join (fun (j3_ : (Bool) × Unit) =>
 M.ite j3_.1
 (M.pure (.tuple ⟨[(.pointer none), (.int .i64 1)]⟩))
 (f122c0 X L x)) fun go4_ =>
 M.ite (x.2.1 == 0)
 (go4_ (true, ()))
 (M.ite (!(((x.2.2.1.2.1 : Nat) : Int) == r2_.2.2.1))
 (go4_ (true, ()))
 (M.callS (.one (.cell .bool)) (X (.call 186 [(.slice x.2.2.2.1.1 x.2.2.2.1.2.1 x.2.2.2.1.2.2), (.int .i64 r2_.2.2.1), (.int .i64 (-1))])) fun (r11_ : Bool) =>
 go4_ ((!r11_), ())))
def f122 (X : Task → M Value) (L : LoopI) (x : (Option Addr) × (Int) × ((Option Addr × Nat × Nat)) × ((Option Addr × Nat × Nat)) × Unit) : M Value :=
 M.callS (.one (.cell .ptr)) (X (.call 139 [(.pointer x.1)])) fun (r0_ : Option Addr) =>
 M.eqPtr r0_ none fun (q1_ : Bool) =>
 M.ite q1_
 (M.pure (.tuple ⟨[(.pointer none), (.int .i64 2)]⟩))
 (f122c1 X L x)

theorem e122 (X : Task → M Value) (L : LoopI) (x : (Option Addr) × (Int) × ((Option Addr × Nat × Nat)) × ((Option Addr × Nat × Nat)) × Unit) : evBody CC { call := X, loop := L } 122 (shsInj [(.cell .ptr), (.cell (.int .u64)), (.cell .slice), (.cell .slice)] x) = f122 X L x := by kernel_rfl

/-- hayrick/hayricklaw17.Every -/
def f123c0 (X : Task → M Value) (L : LoopI) (x : (Int) × Unit) : M (Value) :=
 M.bind (L (σ := ((Option Addr × Nat × Nat)) × (Int) × Unit) (ρ := (((Option Addr × Nat × Nat)) × Unit) ⊕ (Unit)) (fun s0_ =>
 M.ite (decide (s0_.2.1 < x.1))
 (M.new (.cells (Row.ofList [(.int .i64 s0_.2.1)]) 3 false (0, 0) false) fun b2_ =>
 M.append 3 1 8 s0_.1.1 s0_.1.2.1 s0_.1.2.2 (.slice (some (Addr.mk b2_ 0 none)) 1 1) fun a3_ n4_ c5_ =>
 M.pure (.inl ((a3_, n4_, c5_), (IntKind.i64.wrap (s0_.2.1 + 1)), ())))
 (M.pure (.inr (.inl (s0_.1, ()))))) ((none, 0, 0), 0, ())) <| M.sum (fun (j7_ : ((Option Addr × Nat × Nat)) × Unit) =>
 M.pure (.slice j7_.1.1 j7_.1.2.1 j7_.1.2.2)) (fun _ => M.stuck)
def f123 (X : Task → M Value) (L : LoopI) (x : (Int) × Unit) : M Value :=
 f123c0 X L x

theorem e123 (X : Task → M Value) (L : LoopI) (x : (Int) × Unit) : evBody CC { call := X, loop := L } 123 (shsInj [(.cell (.int .i64))] x) = f123 X L x := by kernel_rfl

/-- hayrick/hayrickref17.New -/
def f124c0 (X : Task → M Value) (L : LoopI) (x : (Option Addr) × (Int) × ((Option Addr × Nat × Nat)) × ((Option Addr × Nat × Nat)) × Unit) (r2_ : ((Option Addr × Nat × Nat)) × (Bool) × Unit) : M (Value) :=
 M.join (fun (j3_ : (Bool) × Unit) =>
 M.ite j3_.1
 (M.pure (.tuple ⟨[(.pointer none), (.int .i64 1)]⟩))
 (M.append 206 1 8 none 0 0 (.slice x.2.2.1.1 x.2.2.1.2.1 x.2.2.1.2.2) fun a5_ n6_ c7_ =>
 M.new (.cells (Row.ofList [(.pointer x.1), (.int .u64 x.2.1), (.slice a5_ n6_ c7_), (.slice r2_.1.1 r2_.1.2.1 r2_.1.2.2), (.int .i64 (-1)), (.slice none 0 0), (.slice none 0 0), (.bool false)]) 236 false (0, 0) false) fun b8_ =>
 M.pure (.tuple ⟨[(.pointer (some (Addr.mk b8_ 0 none))), (.int .i64 0)]⟩))) fun go4_ =>
 M.ite (x.2.1 == 0)
 (go4_ (true, ()))
 (M.deref x.1 fun a11_ =>
 M.load (.cell (.int .i64)) 1 ((a11_.add 1).add 2) fun (x12_ : Int) =>
 M.ite (!(((x.2.2.1.2.1 : Nat) : Int) == x12_))
 (go4_ (true, ()))
 (go4_ ((!r2_.2.1), ())))
def f124 (X : Task → M Value) (L : LoopI) (x : (Option Addr) × (Int) × ((Option Addr × Nat × Nat)) × ((Option Addr × Nat × Nat)) × Unit) : M Value :=
 M.deref x.1 fun a0_ =>
 M.load (.cell (.int .i64)) 1 ((a0_.add 1).add 2) fun (x1_ : Int) =>
 M.callS (.tuple [(.cell .slice), (.cell .bool)]) (X (.call 189 [(.slice x.2.2.2.1.1 x.2.2.2.1.2.1 x.2.2.2.1.2.2), (.int .i64 x1_), (.int .i64 (-1))])) fun (r2_ : ((Option Addr × Nat × Nat)) × (Bool) × Unit) =>
 f124c0 X L x r2_

theorem e124 (X : Task → M Value) (L : LoopI) (x : (Option Addr) × (Int) × ((Option Addr × Nat × Nat)) × ((Option Addr × Nat × Nat)) × Unit) : evBody CC { call := X, loop := L } 124 (shsInj [(.cell .ptr), (.cell (.int .u64)), (.cell .slice), (.cell .slice)] x) = f124 X L x := by kernel_rfl

/-- (*hayrick/logs.Log).Stripes -/
def f125 (X : Task → M Value) (L : LoopI) (x : (Option Addr) × Unit) : M Value :=
 M.eqPtr x.1 none fun (q0_ : Bool) =>
 M.ite q0_
 (M.pure (.pointer none))
 (M.deref x.1 fun a1_ =>
 M.load (.cell .ptr) 1 (a1_.add 0) fun (x2_ : Option Addr) =>
 M.pure (.pointer x2_))

theorem e125 (X : Task → M Value) (L : LoopI) (x : (Option Addr) × Unit) : evBody CC { call := X, loop := L } 125 (shsInj [(.cell .ptr)] x) = f125 X L x := by kernel_rfl

/-- (*hayrick/store.Store).right -/
def f132 (X : Task → M Value) (L : LoopI) (x : (Option Addr) × (Int) × Unit) : M Value :=
 M.join (fun (j0_ : (Bool) × Unit) =>
 M.ite j0_.1
 (M.pure (.int .i64 2))
 (M.join (fun (j2_ : (Bool) × Unit) =>
 M.ite j2_.1
 (M.pure (.int .i64 1))
 (M.pure (.int .i64 0))) fun go3_ =>
 M.ite (decide (x.2.1 < 1))
 (go3_ (true, ()))
 (go3_ ((decide (x.2.1 > 64)), ())))) fun go1_ =>
 M.eqPtr x.1 none fun (q6_ : Bool) =>
 M.ite q6_
 (go1_ (true, ()))
 (M.deref x.1 fun a7_ =>
 M.load (.cell .ptr) 1 (a7_.add 0) fun (x8_ : Option Addr) =>
 M.eqPtr x8_ none fun (q9_ : Bool) =>
 go1_ (q9_, ()))

theorem e132 (X : Task → M Value) (L : LoopI) (x : (Option Addr) × (Int) × Unit) : evBody CC { call := X, loop := L } 132 (shsInj [(.cell .ptr), (.cell (.int .i64))] x) = f132 X L x := by kernel_rfl

/-- (*hayrick/store.Store).put -/
def f133c0 (X : Task → M Value) (L : LoopI) (r6_ : ((Option Addr × Nat × Nat)) × (Int) × Unit) (b13_ : Nat) (a14_ : Addr) : M (Value) :=
 M.load (.cell .ptr) 1 (a14_.add 0) fun (x15_ : Option Addr) =>
 M.load (.agg [(.int .i64), .bool, (.int .i64), (.int .i64)]) 4 (Addr.mk b13_ 0 none) fun (x16_ : Int × Bool × Int × Int × Unit) =>
 M.callS (.tuple [(.cell (.int .u32)), (.cell (.int .i64))]) (X (.call 196 [(.pointer x15_), (.agg ⟨[(.int .i64 x16_.1), (.bool x16_.2.1), (.int .i64 x16_.2.2.1), (.int .i64 x16_.2.2.2.1)]⟩), (.slice r6_.1.1 r6_.1.2.1 r6_.1.2.2)])) fun (r17_ : (Int) × (Int) × Unit) =>
 M.pure (.tuple ⟨[(.int .u32 r17_.1), (.int .i64 r17_.2.1)]⟩)
def f133c1 (X : Task → M Value) (L : LoopI) (x : (Option Addr) × (Value) × (Bool) × Unit) (r6_ : ((Option Addr × Nat × Nat)) × (Int) × Unit) : M (Value) :=
 match x.2.1 with
 | .iface t8_ y9_ => M.need (methodA CC t8_ "hayrick/store.record") fun f10_ => callF CC ⟨X, L⟩ f10_ (y9_ :: []) fun w11_ => M.need (RSh.prj (.one (.agg [(.int .i64), .bool, (.int .i64), (.int .i64)])) w11_) fun (r12_ : Int × Bool × Int × Int × Unit) =>
 (M.new (.cells (Row.ofList [(.int .i64 0), (.bool false), (.int .i64 0), (.int .i64 0)]) 226 false (0, 0) false) fun b13_ =>
 M.store (Addr.mk b13_ 0 none) [(.int .i64 r12_.1), (.bool r12_.2.1), (.int .i64 r12_.2.2.1), (.int .i64 r12_.2.2.2.1)]
 (M.store ((Addr.mk b13_ 0 none).add 1) [(.bool x.2.2.1)]
 (M.deref x.1 fun a14_ =>
 f133c0 X L r6_ b13_ a14_)))
 | _ => M.stuck
def f133c2 (X : Task → M Value) (L : LoopI) (x : (Option Addr) × (Value) × (Bool) × Unit) : M (Value) :=
 M.callS (.one (.cell (.int .i64))) (X (.call 132 [(.pointer x.1), (.int .i64 1)])) fun (r0_ : Int) =>
 M.ite (!(r0_ == 0))
 (M.pure (.tuple ⟨[(.int .u32 0), (.int .i64 r0_)]⟩))
 (match x.2.1 with
 | .iface t2_ y3_ => M.need (methodA CC t2_ "hayrick/store.block") fun f4_ => callF CC ⟨X, L⟩ f4_ (y3_ :: []) fun w5_ => M.need (RSh.prj (.tuple [(.cell .slice), (.cell (.int .i64))]) w5_) fun (r6_ : ((Option Addr × Nat × Nat)) × (Int) × Unit) =>
 (M.ite (!(r6_.2.1 == 0))
 (M.pure (.tuple ⟨[(.int .u32 0), (.int .i64 r6_.2.1)]⟩))
 (f133c1 X L x r6_))
 | _ => M.stuck)
def f133 (X : Task → M Value) (L : LoopI) (x : (Option Addr) × (Value) × (Bool) × Unit) : M Value :=
 f133c2 X L x

theorem e133 (X : Task → M Value) (L : LoopI) (x : (Option Addr) × (Value) × (Bool) × Unit) : evBody CC { call := X, loop := L } 133 (shsInj [(.cell .ptr), (.cell .val), (.cell .bool)] x) = f133 X L x := by kernel_rfl

/-- (*hayrick/hayrickref17.Log).Append -/
def f134c0 (X : Task → M Value) (L : LoopI) (x : (Option Addr) × (Int × Bool × Int × Int × Unit) × ((Option Addr × Nat × Nat)) × Unit) (go35_ : (Unit) → M (Value)) (a36_ : Addr) (x37_ : (Option Addr × Nat × Nat)) (v38_ : Int) (a41_ : Addr) : M (Value) :=
 M.load (.cell (.int .i64)) 1 ((a41_.add 1).add 0) fun (x42_ : Int) =>
 M.callS (.one (.cell (.int .i64))) (X (.call 200 [(.int .i64 x42_)])) fun (r43_ : Int) =>
 M.load (.cell .slice) 1 (a36_.add 5) fun (x44_ : (Option Addr × Nat × Nat)) => cond (veqv (.slice x44_.1 x44_.2.1 x44_.2.2) (.slice x37_.1 x37_.2.1 x37_.2.2)) (M.ite (v38_ == r43_)
 (M.callS (.one (.cell (.int .i64))) (X (.call 141 [(.pointer x.1)])) fun (r46_ : Int) =>
 M.ite (!(r46_ == 0))
 (M.pure (.tuple ⟨[(.int .u32 0), (.int .i64 r46_)]⟩))
 (go35_ (())))
 (go35_ (()))) M.stuck
def f134c1 (X : Task → M Value) (L : LoopI) (x : (Option Addr) × (Int × Bool × Int × Int × Unit) × ((Option Addr × Nat × Nat)) × Unit) (r16_ : (Int) × (Int) × Unit) (x26_ : (Option Addr × Nat × Nat)) (b29_ : Nat) : M (Value) :=
 M.append 30 1 24 x26_.1 x26_.2.1 x26_.2.2 (.slice (some (Addr.mk b29_ 0 none)) 1 1) fun a30_ n31_ c32_ =>
 M.deref x.1 fun a33_ =>
 M.store (a33_.add 6) [(.slice a30_ n31_ c32_)]
 (M.join (fun (j34_ : Unit) =>
 M.pure (.tuple ⟨[(.int .u32 r16_.1), (.int .i64 0)]⟩)) fun go35_ =>
 M.deref x.1 fun a36_ =>
 M.load (.cell .slice) 1 (a36_.add 5) fun (x37_ : (Option Addr × Nat × Nat)) =>
 M.deref x.1 fun a39_ =>
 M.load (.cell .ptr) 1 (a39_.add 0) fun (x40_ : Option Addr) =>
 M.deref x40_ fun a41_ =>
 f134c0 X L x go35_ a36_ x37_ ((x37_.2.1 : Nat) : Int) a41_)
def f134c2 (X : Task → M Value) (L : LoopI) (x : (Option Addr) × (Int × Bool × Int × Int × Unit) × ((Option Addr × Nat × Nat)) × Unit) (r16_ : (Int) × (Int) × Unit) (a25_ : Addr) : M (Value) :=
 M.load (.cell .slice) 1 (a25_.add 6) fun (x26_ : (Option Addr × Nat × Nat)) =>
 M.callS (.one (.cell .slice)) (X (.call 199 [(.slice x.2.2.1.1 x.2.2.1.2.1 x.2.2.1.2.2)])) fun (r27_ : (Option Addr × Nat × Nat)) =>
 M.load (.cell .slice) 1 (a25_.add 6) fun (x28_ : (Option Addr × Nat × Nat)) => cond (veqv (.slice x28_.1 x28_.2.1 x28_.2.2) (.slice x26_.1 x26_.2.1 x26_.2.2)) (M.new (.cells (Row.ofList [(.slice r27_.1 r27_.2.1 r27_.2.2)]) 30 false (0, 0) false) fun b29_ =>
 f134c1 X L x r16_ x26_ b29_) M.stuck
def f134c3 (X : Task → M Value) (L : LoopI) (x : (Option Addr) × (Int × Bool × Int × Int × Unit) × ((Option Addr × Nat × Nat)) × Unit) (b0_ : Nat) (r16_ : (Int) × (Int) × Unit) (x18_ : (Option Addr × Nat × Nat)) : M (Value) :=
 M.load (.agg [(.int .i64), .bool, (.int .i64), (.int .i64)]) 4 (Addr.mk b0_ 0 none) fun (x19_ : Int × Bool × Int × Int × Unit) =>
 M.new (.cells (Row.ofList [(.int .i64 x19_.1), (.bool x19_.2.1), (.int .i64 x19_.2.2.1), (.int .i64 x19_.2.2.2.1)]) 226 false (0, 0) false) fun b20_ =>
 M.append 226 4 32 x18_.1 x18_.2.1 x18_.2.2 (.slice (some (Addr.mk b20_ 0 none)) 1 1) fun a21_ n22_ c23_ =>
 M.deref x.1 fun a24_ =>
 M.store (a24_.add 5) [(.slice a21_ n22_ c23_)]
 (M.deref x.1 fun a25_ =>
 f134c2 X L x r16_ a25_)
def f134c4 (X : Task → M Value) (L : LoopI) (x : (Option Addr) × (Int × Bool × Int × Int × Unit) × ((Option Addr × Nat × Nat)) × Unit) (b0_ : Nat) (x10_ : Int) : M (Value) :=
 M.deref x.1 fun a11_ =>
 M.load (.cell (.int .i64)) 1 (a11_.add 4) fun (x12_ : Int) =>
 M.deref x.1 fun a13_ =>
 M.load (.cell .slice) 1 (a13_.add 5) fun (x14_ : (Option Addr × Nat × Nat)) =>
 M.callS (.tuple [(.cell (.int .u32)), (.cell (.int .i64))]) (X (.call 198 [(.int .i64 x10_), (.int .i64 x12_), (.int .i64 ((x14_.2.1 : Nat) : Int))])) fun (r16_ : (Int) × (Int) × Unit) =>
 M.deref x.1 fun a17_ =>
 M.load (.cell .slice) 1 (a17_.add 5) fun (x18_ : (Option Addr × Nat × Nat)) =>
 f134c3 X L x b0_ r16_ x18_
def f134c5 (X : Task → M Value) (L : LoopI) (x : (Option Addr) × (Int × Bool × Int × Int × Unit) × ((Option Addr × Nat × Nat)) × Unit) (s51_ : (Int) × Unit) : M (((Int) × Unit) ⊕ (((Int) × Unit) ⊕ (Unit))) :=
 M.join (fun (j52_ : (Bool) × Unit) =>
 M.ite j52_.1
 (M.pure (.inl ((IntKind.i64.wrap (s51_.1 + 1)), ())))
 (M.pure (.inr (.inl (s51_.1, ()))))) fun go53_ =>
 M.deref x.1 fun a55_ =>
 M.load (.cell .slice) 1 (a55_.add 3) fun (x56_ : (Option Addr × Nat × Nat)) =>
 M.ite (decide (s51_.1 < ((x56_.2.1 : Nat) : Int)))
 (M.deref x.1 fun a59_ =>
 M.load (.cell .slice) 1 (a59_.add 3) fun (x60_ : (Option Addr × Nat × Nat)) =>
 M.guard (decide (0 ≤ s51_.1) && decide (s51_.1 < ((x60_.2.1 : Nat) : Int)))
 (M.deref x60_.1 fun a61_ =>
 M.load (.cell .bool) 1 (a61_.add ((Int.toNat s51_.1) * 1)) fun (x62_ : Bool) =>
 go53_ ((!x62_), ())))
 (go53_ (false, ()))
def f134c6 (X : Task → M Value) (L : LoopI) (x : (Option Addr) × (Int × Bool × Int × Int × Unit) × ((Option Addr × Nat × Nat)) × Unit) (go6_ : (Unit) → M (Value)) (j64_ : (Int) × Unit) (a70_ : Addr) : M (Value) :=
 M.load (.cell .slice) 1 (a70_.add 3) fun (x71_ : (Option Addr × Nat × Nat)) =>
 M.guard (decide (0 ≤ j64_.1) && decide (j64_.1 < ((x71_.2.1 : Nat) : Int)))
 (M.deref x71_.1 fun a72_ =>
 M.store (a72_.add ((Int.toNat j64_.1) * 1)) [(.bool false)]
 (M.deref x.1 fun a73_ =>
 M.load (.cell .slice) 1 (a73_.add 2) fun (x74_ : (Option Addr × Nat × Nat)) =>
 M.guard (decide (0 ≤ j64_.1) && decide (j64_.1 < ((x74_.2.1 : Nat) : Int)))
 (M.deref x74_.1 fun a75_ =>
 M.store (a75_.add ((Int.toNat j64_.1) * 1)) [(.int .u64 0)]
 (go6_ (())))))
def f134c7 (X : Task → M Value) (L : LoopI) (x : (Option Addr) × (Int × Bool × Int × Int × Unit) × ((Option Addr × Nat × Nat)) × Unit) (go6_ : (Unit) → M (Value)) (v50_ : Bool) : M (Value) :=
 M.ite v50_
 (M.bind (L (σ := (Int) × Unit) (ρ := ((Int) × Unit) ⊕ (Unit)) (fun s51_ =>
 f134c5 X L x s51_) (0, ())) <| M.sum (fun (j64_ : (Int) × Unit) =>
 M.deref x.1 fun a65_ =>
 M.load (.cell .slice) 1 (a65_.add 3) fun (x66_ : (Option Addr × Nat × Nat)) =>
 M.ite (j64_.1 == ((x66_.2.1 : Nat) : Int))
 (M.pure (.tuple ⟨[(.int .u32 0), (.int .i64 7)]⟩))
 (M.deref x.1 fun a69_ =>
 M.store (a69_.add 4) [(.int .i64 j64_.1)]
 (M.deref x.1 fun a70_ =>
 f134c6 X L x go6_ j64_ a70_))) (fun _ => M.stuck))
 (go6_ (()))
def f134c8 (X : Task → M Value) (L : LoopI) (x : (Option Addr) × (Int × Bool × Int × Int × Unit) × ((Option Addr × Nat × Nat)) × Unit) (b0_ : Nat) : M (Value) :=
 M.join (fun (j3_ : (Bool) × Unit) =>
 M.ite j3_.1
 (M.pure (.tuple ⟨[(.int .u32 0), (.int .i64 1)]⟩))
 (M.join (fun (j5_ : Unit) =>
 M.deref x.1 fun a7_ =>
 M.load (.cell .ptr) 1 (a7_.add 0) fun (x8_ : Option Addr) =>
 M.deref x8_ fun a9_ =>
 M.load (.cell (.int .i64)) 1 ((a9_.add 1).add 0) fun (x10_ : Int) =>
 f134c4 X L x b0_ x10_) fun go6_ =>
 M.deref x.1 fun a48_ =>
 M.load (.cell (.int .i64)) 1 (a48_.add 4) fun (x49_ : Int) =>
 f134c7 X L x go6_ (decide (x49_ < 0)))) fun go4_ =>
 M.load (.agg [(.int .i64), .bool, (.int .i64), (.int .i64)]) 4 (Addr.mk b0_ 0 none) fun (x76_ : Int × Bool × Int × Int × Unit) =>
 M.callS (.one (.cell .bool)) (X (.call 197 [(.agg ⟨[(.int .i64 x76_.1), (.bool x76_.2.1), (.int .i64 x76_.2.2.1), (.int .i64 x76_.2.2.2.1)]⟩)])) fun (r77_ : Bool) =>
 M.ite (!r77_)
 (go4_ (true, ()))
 (go4_ ((!(((x.2.2.1.2.1 : Nat) : Int) == 112)), ()))
def f134 (X : Task → M Value) (L : LoopI) (x : (Option Addr) × (Int × Bool × Int × Int × Unit) × ((Option Addr × Nat × Nat)) × Unit) : M Value :=
 M.new (.cells (Row.ofList [(.int .i64 x.2.1.1), (.bool x.2.1.2.1), (.int .i64 x.2.1.2.2.1), (.int .i64 x.2.1.2.2.2.1)]) 226 false (0, 0) false) fun b0_ =>
 M.deref x.1 fun a1_ =>
 M.load (.cell .bool) 1 (a1_.add 7) fun (x2_ : Bool) =>
 M.ite x2_
 (M.pure (.tuple ⟨[(.int .u32 0), (.int .i64 20)]⟩))
 (f134c8 X L x b0_)

theorem e134 (X : Task → M Value) (L : LoopI) (x : (Option Addr) × (Int × Bool × Int × Int × Unit) × ((Option Addr × Nat × Nat)) × Unit) : evBody CC { call := X, loop := L } 134 (shsInj [(.cell .ptr), (.agg [(.int .i64), .bool, (.int .i64), (.int .i64)]), (.cell .slice)] x) = f134 X L x := by kernel_rfl

/-- (*hayrick/logs.Log).does -/
def f135c0 (X : Task → M Value) (L : LoopI) (x : (Option Addr) × (Value) × Unit) : M (Value) :=
 M.join (fun (j0_ : (Bool) × Unit) =>
 M.ite j0_.1
 (M.pure (.int .i64 2))
 (M.deref x.1 fun a2_ =>
 M.load (.cell .bool) 1 (a2_.add 7) fun (x3_ : Bool) =>
 M.ite x3_
 (M.pure (.int .i64 20))
 (callV CC ⟨X, L⟩ x.2.1 [] fun w5_ => M.need (RSh.prj (.one (.cell (.int .i64))) w5_) fun (r4_ : Int) =>
 M.pure (.int .i64 r4_)))) fun go1_ =>
 M.eqPtr x.1 none fun (q6_ : Bool) =>
 M.ite q6_
 (go1_ (true, ()))
 (M.deref x.1 fun a7_ =>
 M.load (.cell .ptr) 1 (a7_.add 0) fun (x8_ : Option Addr) =>
 M.eqPtr x8_ none fun (q9_ : Bool) =>
 go1_ (q9_, ()))
def f135 (X : Task → M Value) (L : LoopI) (x : (Option Addr) × (Value) × Unit) : M Value :=
 f135c0 X L x

theorem e135 (X : Task → M Value) (L : LoopI) (x : (Option Addr) × (Value) × Unit) : evBody CC { call := X, loop := L } 135 (shsInj [(.cell .ptr), (.cell .val)] x) = f135 X L x := by kernel_rfl

/-- (*hayrick/logs.Log).out -/
def f137c0 (X : Task → M Value) (L : LoopI) (v9_ : Int) (b10_ : Nat) (x13_ : (Option Addr × Nat × Nat)) (s15_ : (Int) × (Int) × Unit) : M (((Int) × (Int) × Unit) ⊕ ((Unit) ⊕ (Unit))) :=
 M.guard (decide (0 ≤ s15_.2.1) && decide (s15_.2.1 < ((x13_.2.1 : Nat) : Int)))
 (M.deref x13_.1 fun a17_ =>
 M.load (.cell .slice) 1 (a17_.add ((Int.toNat s15_.2.1) * 1)) fun (x18_ : (Option Addr × Nat × Nat)) =>
 M.guard (decide (0 ≤ s15_.1) && decide (s15_.1 ≤ (((Int.toNat v9_) : Nat) : Int)))
 (let v19_ : Nat := (Int.toNat s15_.1)
 M.copy 1 (some ((Addr.mk b10_ 0 none).add (v19_ * 1))) ((Int.toNat v9_) - v19_) (.slice x18_.1 x18_.2.1 x18_.2.2) fun m20_ =>
 M.pure (.inl ((IntKind.i64.wrap (s15_.1 + ((m20_ : Nat) : Int))), (IntKind.i64.wrap (s15_.2.1 + 1)), ()))))
def f137c1 (X : Task → M Value) (L : LoopI) (x : (Option Addr) × Unit) (x34_ : (Option Addr × Nat × Nat)) (x36_ : Int) (x38_ : Int) : M (Value) :=
 M.guard (decide (0 ≤ x36_) && decide (x36_ < ((x34_.2.1 : Nat) : Int)))
 (M.deref x34_.1 fun a39_ =>
 M.store (a39_.add ((Int.toNat x36_) * 1)) [(.int .u64 x38_)]
 (M.deref x.1 fun a40_ =>
 M.load (.cell (.int .u64)) 1 (a40_.add 1) fun (x41_ : Int) =>
 M.deref x.1 fun a43_ =>
 M.store (a43_.add 1) [(.int .u64 (IntKind.u64.wrap (x41_ + 1)))]
 (M.deref x.1 fun a44_ =>
 M.store (a44_.add 4) [(.int .i64 (-1))]
 (M.deref x.1 fun a45_ =>
 M.store (a45_.add 5) [(.slice none 0 0)]
 (M.deref x.1 fun a46_ =>
 M.store (a46_.add 6) [(.slice none 0 0)]
 (M.pure (.int .i64 0)))))))
def f137c2 (X : Task → M Value) (L : LoopI) (x : (Option Addr) × Unit) (v9_ : Int) (b10_ : Nat) (x25_ : Option Addr) (x27_ : Int) (x29_ : Int) : M (Value) :=
 M.callS (.one (.cell (.int .i64))) (X (.call 203 [(.pointer x25_), (.int .i64 x27_), (.int .u64 x29_), (.slice (some (Addr.mk b10_ 0 none)) (Int.toNat v9_) (Int.toNat v9_))])) fun (r30_ : Int) =>
 M.ite (!(r30_ == 0))
 (M.callS (.one (.cell (.int .i64))) (X (.call 138 [(.pointer x.1), (.int .i64 r30_)])) fun (r32_ : Int) =>
 M.pure (.int .i64 r32_))
 (M.deref x.1 fun a33_ =>
 M.load (.cell .slice) 1 (a33_.add 2) fun (x34_ : (Option Addr × Nat × Nat)) =>
 M.deref x.1 fun a35_ =>
 M.load (.cell (.int .i64)) 1 (a35_.add 4) fun (x36_ : Int) =>
 M.deref x.1 fun a37_ =>
 M.load (.cell (.int .u64)) 1 (a37_.add 1) fun (x38_ : Int) =>
 f137c1 X L x x34_ x36_ x38_)
def f137c3 (X : Task → M Value) (L : LoopI) (x : (Option Addr) × Unit) (v9_ : Int) (b10_ : Nat) (m11_ : Nat) (x13_ : (Option Addr × Nat × Nat)) (v14_ : Int) : M (Value) :=
 M.bind (L (σ := (Int) × (Int) × Unit) (ρ := (Unit) ⊕ (Unit)) (fun s15_ =>
 M.ite (decide (s15_.2.1 < v14_))
 (f137c0 X L v9_ b10_ x13_ s15_)
 (M.pure (.inr (.inl (()))))) (((m11_ : Nat) : Int), 0, ())) <| M.sum (fun (j23_ : Unit) =>
 M.deref x.1 fun a24_ =>
 M.load (.cell .ptr) 1 (a24_.add 0) fun (x25_ : Option Addr) =>
 M.deref x.1 fun a26_ =>
 M.load (.cell (.int .i64)) 1 (a26_.add 4) fun (x27_ : Int) =>
 M.deref x.1 fun a28_ =>
 M.load (.cell (.int .u64)) 1 (a28_.add 1) fun (x29_ : Int) =>
 f137c2 X L x v9_ b10_ x25_ x27_ x29_) (fun _ => M.stuck)
def f137c4 (X : Task → M Value) (L : LoopI) (x : (Option Addr) × Unit) (r3_ : Int) (r6_ : ((Option Addr × Nat × Nat)) × (Int) × Unit) (v7_ : Bool) : M (Value) :=
 M.ite v7_
 (M.callS (.one (.cell (.int .i64))) (X (.call 138 [(.pointer x.1), (.int .i64 r6_.2.1)])) fun (r8_ : Int) =>
 M.pure (.int .i64 r8_))
 (let v9_ : Int := IntKind.i64.wrap (r3_ * 448)
 M.guard (decide (0 ≤ v9_) && decide (v9_ ≤ v9_) && decide ((1 : Int) * v9_ ≤ 2 ^ 48))
 (M.new (.cells (Row.rep [(.int .u8 0)] (Int.toNat v9_)) 5 false (0, 0) false) fun b10_ =>
 M.copy 1 (some (Addr.mk b10_ 0 none)) (Int.toNat v9_) (.slice r6_.1.1 r6_.1.2.1 r6_.1.2.2) fun m11_ =>
 M.deref x.1 fun a12_ =>
 M.load (.cell .slice) 1 (a12_.add 6) fun (x13_ : (Option Addr × Nat × Nat)) =>
 f137c3 X L x v9_ b10_ m11_ x13_ ((x13_.2.1 : Nat) : Int)))
def f137c5 (X : Task → M Value) (L : LoopI) (x : (Option Addr) × Unit) (a0_ : Addr) : M (Value) :=
 M.load (.cell (.int .i64)) 1 (a0_.add 4) fun (x1_ : Int) =>
 M.ite (decide (x1_ < 0))
 (M.pure (.int .i64 0))
 (M.callS (.one (.cell (.int .i64))) (X (.call 201 [(.pointer x.1)])) fun (r3_ : Int) =>
 M.deref x.1 fun a4_ =>
 M.load (.cell .slice) 1 (a4_.add 5) fun (x5_ : (Option Addr × Nat × Nat)) =>
 M.callS (.tuple [(.cell .slice), (.cell (.int .i64))]) (X (.call 202 [(.int .i64 r3_), (.slice x5_.1 x5_.2.1 x5_.2.2)])) fun (r6_ : ((Option Addr × Nat × Nat)) × (Int) × Unit) =>
 f137c4 X L x r3_ r6_ (!(r6_.2.1 == 0)))
def f137 (X : Task → M Value) (L : LoopI) (x : (Option Addr) × Unit) : M Value :=
 M.deref x.1 fun a0_ =>
 f137c5 X L x a0_

theorem e137 (X : Task → M Value) (L : LoopI) (x : (Option Addr) × Unit) : evBody CC { call := X, loop := L } 137 (shsInj [(.cell .ptr)] x) = f137 X L x := by kernel_rfl

/-- (*hayrick/logs.Log).sure -/
def f138 (X : Task → M Value) (L : LoopI) (x : (Option Addr) × (Int) × Unit) : M Value :=
 M.join (fun (j0_ : Unit) =>
 M.pure (.int .i64 x.2.1)) fun go1_ =>
 M.deref x.1 fun a2_ =>
 M.load (.cell .bool) 1 (a2_.add 7) fun (x3_ : Bool) =>
 M.ite x3_
 (M.deref x.1 fun a4_ =>
 M.store (a4_.add 7) [(.bool true)]
 (go1_ (())))
 (M.deref x.1 fun a6_ =>
 M.store (a6_.add 7) [(.bool (!(x.2.1 == 0)))]
 (go1_ (())))

theorem e138 (X : Task → M Value) (L : LoopI) (x : (Option Addr) × (Int) × Unit) : evBody CC { call := X, loop := L } 138 (shsInj [(.cell .ptr), (.cell (.int .i64))] x) = f138 X L x := by kernel_rfl

/-- (*hayrick/stripe.Stripes).Array -/
def f139 (X : Task → M Value) (L : LoopI) (x : (Option Addr) × Unit) : M Value :=
 M.eqPtr x.1 none fun (q0_ : Bool) =>
 M.ite q0_
 (M.pure (.pointer none))
 (M.deref x.1 fun a1_ =>
 M.load (.cell .ptr) 1 (a1_.add 0) fun (x2_ : Option Addr) =>
 M.pure (.pointer x2_))

theorem e139 (X : Task → M Value) (L : LoopI) (x : (Option Addr) × Unit) : evBody CC { call := X, loop := L } 139 (shsInj [(.cell .ptr)] x) = f139 X L x := by kernel_rfl

/-- (*hayrick/hayrickref17.Log).out -/
def f141c0 (X : Task → M Value) (L : LoopI) (x : (Option Addr) × Unit) (s10_ : ((Option Addr × Nat × Nat)) × (Int) × Unit) (v14_ : Bool) : M ((((Option Addr × Nat × Nat)) × (Int) × Unit) ⊕ ((((Option Addr × Nat × Nat)) × Unit) ⊕ (Unit))) :=
 M.ite v14_
 (M.deref x.1 fun a15_ =>
 M.load (.cell .slice) 1 (a15_.add 6) fun (x16_ : (Option Addr × Nat × Nat)) =>
 M.guard (decide (0 ≤ s10_.2.1) && decide (s10_.2.1 < ((x16_.2.1 : Nat) : Int)))
 (M.deref x16_.1 fun a17_ =>
 M.load (.cell .slice) 1 (a17_.add ((Int.toNat s10_.2.1) * 1)) fun (x18_ : (Option Addr × Nat × Nat)) =>
 M.append 5 1 1 s10_.1.1 s10_.1.2.1 s10_.1.2.2 (.slice x18_.1 x18_.2.1 x18_.2.2) fun a19_ n20_ c21_ =>
 M.pure (.inl ((a19_, n20_, c21_), (IntKind.i64.wrap (s10_.2.1 + 1)), ()))))
 (M.pure (.inr (.inl (s10_.1, ()))))
def f141c1 (X : Task → M Value) (L : LoopI) (x : (Option Addr) × Unit) (x44_ : (Option Addr × Nat × Nat)) (x46_ : Int) (x48_ : Int) : M (Value) :=
 M.guard (decide (0 ≤ x46_) && decide (x46_ < ((x44_.2.1 : Nat) : Int)))
 (M.deref x44_.1 fun a49_ =>
 M.store (a49_.add ((Int.toNat x46_) * 1)) [(.int .u64 x48_)]
 (M.deref x.1 fun a50_ =>
 M.load (.cell (.int .u64)) 1 (a50_.add 1) fun (x51_ : Int) =>
 M.deref x.1 fun a53_ =>
 M.store (a53_.add 1) [(.int .u64 (IntKind.u64.wrap (x51_ + 1)))]
 (M.deref x.1 fun a54_ =>
 M.store (a54_.add 4) [(.int .i64 (-1))]
 (M.deref x.1 fun a55_ =>
 M.store (a55_.add 5) [(.slice none 0 0)]
 (M.deref x.1 fun a56_ =>
 M.store (a56_.add 6) [(.slice none 0 0)]
 (M.pure (.int .i64 0)))))))
def f141c2 (X : Task → M Value) (L : LoopI) (x : (Option Addr) × Unit) (a31_ : Option Addr) (n32_ : Nat) (c33_ : Nat) (x35_ : Option Addr) (x37_ : Int) (x39_ : Int) : M (Value) :=
 M.callS (.one (.cell (.int .i64))) (X (.call 207 [(.pointer x35_), (.int .i64 x37_), (.int .u64 x39_), (.slice a31_ n32_ c33_)])) fun (r40_ : Int) =>
 M.ite (!(r40_ == 0))
 (M.deref x.1 fun a42_ =>
 M.store (a42_.add 7) [(.bool true)]
 (M.pure (.int .i64 r40_)))
 (M.deref x.1 fun a43_ =>
 M.load (.cell .slice) 1 (a43_.add 2) fun (x44_ : (Option Addr × Nat × Nat)) =>
 M.deref x.1 fun a45_ =>
 M.load (.cell (.int .i64)) 1 (a45_.add 4) fun (x46_ : Int) =>
 M.deref x.1 fun a47_ =>
 M.load (.cell (.int .u64)) 1 (a47_.add 1) fun (x48_ : Int) =>
 f141c1 X L x x44_ x46_ x48_)
def f141c3 (X : Task → M Value) (L : LoopI) (x : (Option Addr) × Unit) (j23_ : ((Option Addr × Nat × Nat)) × Unit) (a26_ : Addr) : M (Value) :=
 M.load (.cell (.int .i64)) 1 ((a26_.add 1).add 0) fun (x27_ : Int) =>
 M.append 5 1 1 j23_.1.1 j23_.1.2.1 j23_.1.2.2 (.int .i64 (IntKind.i64.wrap ((IntKind.i64.wrap (448 * x27_)) - ((j23_.1.2.1 : Nat) : Int)))) fun a31_ n32_ c33_ =>
 M.deref x.1 fun a34_ =>
 M.load (.cell .ptr) 1 (a34_.add 0) fun (x35_ : Option Addr) =>
 M.deref x.1 fun a36_ =>
 M.load (.cell (.int .i64)) 1 (a36_.add 4) fun (x37_ : Int) =>
 M.deref x.1 fun a38_ =>
 M.load (.cell (.int .u64)) 1 (a38_.add 1) fun (x39_ : Int) =>
 f141c2 X L x a31_ n32_ c33_ x35_ x37_ x39_
def f141c4 (X : Task → M Value) (L : LoopI) (x : (Option Addr) × Unit) (r9_ : ((Option Addr × Nat × Nat)) × (Int) × Unit) : M (Value) :=
 M.bind (L (σ := ((Option Addr × Nat × Nat)) × (Int) × Unit) (ρ := (((Option Addr × Nat × Nat)) × Unit) ⊕ (Unit)) (fun s10_ =>
 M.deref x.1 fun a11_ =>
 M.load (.cell .slice) 1 (a11_.add 6) fun (x12_ : (Option Addr × Nat × Nat)) =>
 f141c0 X L x s10_ (decide (s10_.2.1 < ((x12_.2.1 : Nat) : Int)))) (r9_.1, 0, ())) <| M.sum (fun (j23_ : ((Option Addr × Nat × Nat)) × Unit) =>
 M.deref x.1 fun a24_ =>
 M.load (.cell .ptr) 1 (a24_.add 0) fun (x25_ : Option Addr) =>
 M.deref x25_ fun a26_ =>
 f141c3 X L x j23_ a26_) (fun _ => M.stuck)
def f141c5 (X : Task → M Value) (L : LoopI) (x : (Option Addr) × Unit) (v2_ : Bool) : M (Value) :=
 M.ite v2_
 (M.pure (.int .i64 0))
 (M.deref x.1 fun a3_ =>
 M.load (.cell .ptr) 1 (a3_.add 0) fun (x4_ : Option Addr) =>
 M.deref x4_ fun a5_ =>
 M.load (.cell (.int .i64)) 1 ((a5_.add 1).add 0) fun (x6_ : Int) =>
 M.deref x.1 fun a7_ =>
 M.load (.cell .slice) 1 (a7_.add 5) fun (x8_ : (Option Addr × Nat × Nat)) =>
 M.callS (.tuple [(.cell .slice), (.cell (.int .i64))]) (X (.call 206 [(.int .i64 x6_), (.slice x8_.1 x8_.2.1 x8_.2.2)])) fun (r9_ : ((Option Addr × Nat × Nat)) × (Int) × Unit) =>
 f141c4 X L x r9_)
def f141 (X : Task → M Value) (L : LoopI) (x : (Option Addr) × Unit) : M Value :=
 M.deref x.1 fun a0_ =>
 M.load (.cell (.int .i64)) 1 (a0_.add 4) fun (x1_ : Int) =>
 f141c5 X L x (decide (x1_ < 0))

theorem e141 (X : Task → M Value) (L : LoopI) (x : (Option Addr) × Unit) : evBody CC { call := X, loop := L } 141 (shsInj [(.cell .ptr)] x) = f141 X L x := by kernel_rfl

/-- unicode/utf8.DecodeRuneInString -/
def f157c0 (X : Task → M Value) (L : LoopI) (x : (ByteArray) × Unit) : M (Value) :=
 M.join (fun (j0_ : (Bool) × Unit) =>
 M.ite j0_.1
 (M.guard (decide (0 ≤ 0) && decide (0 < (x.1.size : Int)))
 (M.pure (.tuple ⟨[(.int .i32 (IntKind.i32.wrap (byteAt x.1 0))), (.int .i64 1)]⟩)))
 (M.callS (.tuple [(.cell (.int .i32)), (.cell (.int .i64))]) (X (.call 225 [(.string x.1)])) fun (r4_ : (Int) × (Int) × Unit) =>
 M.pure (.tuple ⟨[(.int .i32 r4_.1), (.int .i64 r4_.2.1)]⟩))) fun go1_ =>
 M.ite (!(seq x.1 st0))
 (M.guard (decide (0 ≤ 0) && decide (0 < (x.1.size : Int)))
 (go1_ ((decide ((byteAt x.1 0) < 128)), ())))
 (go1_ (false, ()))
def f157 (X : Task → M Value) (L : LoopI) (x : (ByteArray) × Unit) : M Value :=
 f157c0 X L x

theorem e157 (X : Task → M Value) (L : LoopI) (x : (ByteArray) × Unit) : evBody CC { call := X, loop := L } 157 (shsInj [(.cell .string)] x) = f157 X L x := by kernel_rfl

/-- slices.ContainsFunc[[]uint32,uint32] -/
def f159 (X : Task → M Value) (L : LoopI) (x : ((Option Addr × Nat × Nat)) × (Value) × Unit) : M Value :=
 M.callS (.one (.cell (.int .i64))) (X (.call 227 [(.slice x.1.1 x.1.2.1 x.1.2.2), x.2.1])) fun (r0_ : Int) =>
 M.pure (.bool (decide (r0_ ≥ 0)))

theorem e159 (X : Task → M Value) (L : LoopI) (x : ((Option Addr × Nat × Nat)) × (Value) × Unit) : evBody CC { call := X, loop := L } 159 (shsInj [(.cell .slice), (.cell .val)] x) = f159 X L x := by kernel_rfl

/-- hayrick/inode.May$1 -/
def f160 (X : Task → M Value) (L : LoopI) (x : (Int) × Unit) : M Value :=
 M.pure (.bool (!(x.1 == 0)))

theorem e160 (X : Task → M Value) (L : LoopI) (x : (Int) × Unit) : evBody CC { call := X, loop := L } 160 (shsInj [(.cell (.int .u32))] x) = f160 X L x := by kernel_rfl

/-- (*hayrick/store.Store).Points -/
def f161 (X : Task → M Value) (L : LoopI) (x : (Option Addr) × (Int) × ((Option Addr × Nat × Nat)) × (Bool) × Unit) : M Value :=
 M.callS (.tuple [(.cell (.int .u32)), (.cell (.int .i64))]) (X (.call 133 [(.pointer x.1), (.iface 349 (.agg ⟨[(.int .i64 x.2.1), (.slice x.2.2.1.1 x.2.2.1.2.1 x.2.2.1.2.2)]⟩)), (.bool x.2.2.2.1)])) fun (r0_ : (Int) × (Int) × Unit) =>
 M.pure (.tuple ⟨[(.int .u32 r0_.1), (.int .i64 r0_.2.1)]⟩)

theorem e161 (X : Task → M Value) (L : LoopI) (x : (Option Addr) × (Int) × ((Option Addr × Nat × Nat)) × (Bool) × Unit) : evBody CC { call := X, loop := L } 161 (shsInj [(.cell .ptr), (.cell (.int .i64)), (.cell .slice), (.cell .bool)] x) = f161 X L x := by kernel_rfl

/-- hayrick/points.Spread -/
def f162c0 (X : Task → M Value) (L : LoopI) (b1_ : Nat) : M (Value) :=
 M.load (.agg [(.int .i64), (.int .i64), (.int .i64), (.int .i64), (.int .u32), (.int .u32), (.int .u32), (.int .u32), (.int .u32), (.int .u32), (.int .u32)]) 11 (Addr.mk b1_ 0 none) fun (x4_ : Int × Int × Int × Int × Int × Int × Int × Int × Int × Int × Int × Unit) =>
 M.pure (.tuple ⟨[(.agg ⟨[(.int .i64 x4_.1), (.int .i64 x4_.2.1), (.int .i64 x4_.2.2.1), (.int .i64 x4_.2.2.2.1), (.int .u32 x4_.2.2.2.2.1), (.int .u32 x4_.2.2.2.2.2.1), (.int .u32 x4_.2.2.2.2.2.2.1), (.int .u32 x4_.2.2.2.2.2.2.2.1), (.int .u32 x4_.2.2.2.2.2.2.2.2.1), (.int .u32 x4_.2.2.2.2.2.2.2.2.2.1), (.int .u32 x4_.2.2.2.2.2.2.2.2.2.2.1)]⟩), (.slice none 0 0), (.int .i64 1)]⟩)
def f162c1 (X : Task → M Value) (L : LoopI) (b1_ : Nat) (r8_ : (Option Addr × Nat × Nat)) : M (Value) :=
 M.load (.agg [(.int .i64), (.int .i64), (.int .i64), (.int .i64), (.int .u32), (.int .u32), (.int .u32), (.int .u32), (.int .u32), (.int .u32), (.int .u32)]) 11 (Addr.mk b1_ 0 none) fun (x10_ : Int × Int × Int × Int × Int × Int × Int × Int × Int × Int × Int × Unit) =>
 M.pure (.tuple ⟨[(.agg ⟨[(.int .i64 x10_.1), (.int .i64 x10_.2.1), (.int .i64 x10_.2.2.1), (.int .i64 x10_.2.2.2.1), (.int .u32 x10_.2.2.2.2.1), (.int .u32 x10_.2.2.2.2.2.1), (.int .u32 x10_.2.2.2.2.2.2.1), (.int .u32 x10_.2.2.2.2.2.2.2.1), (.int .u32 x10_.2.2.2.2.2.2.2.2.1), (.int .u32 x10_.2.2.2.2.2.2.2.2.2.1), (.int .u32 x10_.2.2.2.2.2.2.2.2.2.2.1)]⟩), (.slice r8_.1 r8_.2.1 r8_.2.2), (.int .i64 0)]⟩)
def f162c2 (X : Task → M Value) (L : LoopI) (b0_ : Nat) (b1_ : Nat) (x6_ : Int × Int × Int × Int × Int × Int × Int × Int × Int × Int × Int × Unit) (r8_ : (Option Addr × Nat × Nat)) : M (Value) :=
 M.load (.agg [(.int .i64), (.int .i64), (.int .i64), (.int .i64), (.int .u32), (.int .u32), (.int .u32), (.int .u32), (.int .u32), (.int .u32), (.int .u32)]) 11 (Addr.mk b0_ 0 none) fun (x9_ : Int × Int × Int × Int × Int × Int × Int × Int × Int × Int × Int × Unit) => cond (veqv (.agg ⟨[(.int .i64 x9_.1), (.int .i64 x9_.2.1), (.int .i64 x9_.2.2.1), (.int .i64 x9_.2.2.2.1), (.int .u32 x9_.2.2.2.2.1), (.int .u32 x9_.2.2.2.2.2.1), (.int .u32 x9_.2.2.2.2.2.2.1), (.int .u32 x9_.2.2.2.2.2.2.2.1), (.int .u32 x9_.2.2.2.2.2.2.2.2.1), (.int .u32 x9_.2.2.2.2.2.2.2.2.2.1), (.int .u32 x9_.2.2.2.2.2.2.2.2.2.2.1)]⟩) (.agg ⟨[(.int .i64 x6_.1), (.int .i64 x6_.2.1), (.int .i64 x6_.2.2.1), (.int .i64 x6_.2.2.2.1), (.int .u32 x6_.2.2.2.2.1), (.int .u32 x6_.2.2.2.2.2.1), (.int .u32 x6_.2.2.2.2.2.2.1), (.int .u32 x6_.2.2.2.2.2.2.2.1), (.int .u32 x6_.2.2.2.2.2.2.2.2.1), (.int .u32 x6_.2.2.2.2.2.2.2.2.2.1), (.int .u32 x6_.2.2.2.2.2.2.2.2.2.2.1)]⟩)) (M.store (Addr.mk b1_ 0 none) [(.int .i64 x6_.1), (.int .i64 x6_.2.1), (.int .i64 x6_.2.2.1), (.int .i64 x6_.2.2.2.1), (.int .u32 x6_.2.2.2.2.1), (.int .u32 x6_.2.2.2.2.2.1), (.int .u32 x6_.2.2.2.2.2.2.1), (.int .u32 x6_.2.2.2.2.2.2.2.1), (.int .u32 x6_.2.2.2.2.2.2.2.2.1), (.int .u32 x6_.2.2.2.2.2.2.2.2.2.1), (.int .u32 x6_.2.2.2.2.2.2.2.2.2.2.1)]
 (f162c1 X L b1_ r8_)) M.stuck
def f162c3 (X : Task → M Value) (L : LoopI) (x : (Int × Int × Int × Int × Int × Int × Int × Int × Int × Int × Int × Unit) × ((Option Addr × Nat × Nat)) × Unit) (b0_ : Nat) (b1_ : Nat) (m5_ : Nat) : M (Value) :=
 M.load (.agg [(.int .i64), (.int .i64), (.int .i64), (.int .i64), (.int .u32), (.int .u32), (.int .u32), (.int .u32), (.int .u32), (.int .u32), (.int .u32)]) 11 (Addr.mk b0_ 0 none) fun (x6_ : Int × Int × Int × Int × Int × Int × Int × Int × Int × Int × Int × Unit) =>
 M.guard (decide (0 ≤ ((m5_ : Nat) : Int)) && decide (((m5_ : Nat) : Int) ≤ ((x.2.1.2.1 : Nat) : Int)))
 (let v7_ : Nat := (Int.toNat ((m5_ : Nat) : Int))
 M.callS (.one (.cell .slice)) (X (.call 228 [(.slice (x.2.1.1.map (·.add (v7_ * 1))) (x.2.1.2.1 - v7_) (x.2.1.2.2 - v7_))])) fun (r8_ : (Option Addr × Nat × Nat)) =>
 f162c2 X L b0_ b1_ x6_ r8_)
def f162c4 (X : Task → M Value) (L : LoopI) (x : (Int × Int × Int × Int × Int × Int × Int × Int × Int × Int × Int × Unit) × ((Option Addr × Nat × Nat)) × Unit) (b0_ : Nat) (go3_ : ((Bool) × Unit) → M (Value)) (x11_ : Int × Int × Int × Int × Int × Int × Int × Int × Int × Int × Int × Unit) : M (Value) :=
 M.callS (.one (.cell .bool)) (X (.call 102 [(.agg ⟨[(.int .i64 x11_.1), (.int .i64 x11_.2.1), (.int .i64 x11_.2.2.1), (.int .i64 x11_.2.2.2.1), (.int .u32 x11_.2.2.2.2.1), (.int .u32 x11_.2.2.2.2.2.1), (.int .u32 x11_.2.2.2.2.2.2.1), (.int .u32 x11_.2.2.2.2.2.2.2.1), (.int .u32 x11_.2.2.2.2.2.2.2.2.1), (.int .u32 x11_.2.2.2.2.2.2.2.2.2.1), (.int .u32 x11_.2.2.2.2.2.2.2.2.2.2.1)]⟩)])) fun (r12_ : Bool) =>
 M.ite (!r12_)
 (go3_ (true, ()))
 (M.load (.cell (.int .i64)) 1 ((Addr.mk b0_ 0 none).add 2) fun (x15_ : Int) =>
 M.callS (.one (.cell (.int .i64))) (X (.call 103 [(.int .i64 x15_)])) fun (r16_ : Int) =>
 go3_ ((!(((x.2.1.2.1 : Nat) : Int) == r16_)), ()))
def f162c5 (X : Task → M Value) (L : LoopI) (x : (Int × Int × Int × Int × Int × Int × Int × Int × Int × Int × Int × Unit) × ((Option Addr × Nat × Nat)) × Unit) (b0_ : Nat) (b1_ : Nat) : M (Value) :=
 M.join (fun (j2_ : (Bool) × Unit) =>
 M.ite j2_.1
 (M.store (Addr.mk b1_ 0 none) [(.int .i64 0), (.int .i64 0), (.int .i64 0), (.int .i64 0), (.int .u32 0), (.int .u32 0), (.int .u32 0), (.int .u32 0), (.int .u32 0), (.int .u32 0), (.int .u32 0)]
 (f162c0 X L b1_))
 (M.copy 1 (some (((Addr.mk b0_ 0 none).add 4).add (0 * 1))) (6 - 0) (.slice x.2.1.1 x.2.1.2.1 x.2.1.2.2) fun m5_ =>
 f162c3 X L x b0_ b1_ m5_)) fun go3_ =>
 M.load (.agg [(.int .i64), (.int .i64), (.int .i64), (.int .i64), (.int .u32), (.int .u32), (.int .u32), (.int .u32), (.int .u32), (.int .u32), (.int .u32)]) 11 (Addr.mk b0_ 0 none) fun (x11_ : Int × Int × Int × Int × Int × Int × Int × Int × Int × Int × Int × Unit) =>
 f162c4 X L x b0_ go3_ x11_
def f162c6 (X : Task → M Value) (L : LoopI) (x : (Int × Int × Int × Int × Int × Int × Int × Int × Int × Int × Int × Unit) × ((Option Addr × Nat × Nat)) × Unit) : M (Value) :=
 M.new (.cells (Row.ofList [(.int .i64 x.1.1), (.int .i64 x.1.2.1), (.int .i64 x.1.2.2.1), (.int .i64 x.1.2.2.2.1), (.int .u32 x.1.2.2.2.2.1), (.int .u32 x.1.2.2.2.2.2.1), (.int .u32 x.1.2.2.2.2.2.2.1), (.int .u32 x.1.2.2.2.2.2.2.2.1), (.int .u32 x.1.2.2.2.2.2.2.2.2.1), (.int .u32 x.1.2.2.2.2.2.2.2.2.2.1), (.int .u32 x.1.2.2.2.2.2.2.2.2.2.2.1)]) 117 false (0, 0) false) fun b0_ =>
 M.new (.cells (Row.ofList [(.int .i64 0), (.int .i64 0), (.int .i64 0), (.int .i64 0), (.int .u32 0), (.int .u32 0), (.int .u32 0), (.int .u32 0), (.int .u32 0), (.int .u32 0), (.int .u32 0)]) 117 false (0, 0) false) fun b1_ =>
 M.store ((Addr.mk b0_ 0 none).add 4) [(.int .u32 0), (.int .u32 0), (.int .u32 0), (.int .u32 0), (.int .u32 0), (.int .u32 0)]
 (M.store ((Addr.mk b0_ 0 none).add 10) [(.int .u32 0)]
 (f162c5 X L x b0_ b1_))
def f162 (X : Task → M Value) (L : LoopI) (x : (Int × Int × Int × Int × Int × Int × Int × Int × Int × Int × Int × Unit) × ((Option Addr × Nat × Nat)) × Unit) : M Value :=
 f162c6 X L x

theorem e162 (X : Task → M Value) (L : LoopI) (x : (Int × Int × Int × Int × Int × Int × Int × Int × Int × Int × Int × Unit) × ((Option Addr × Nat × Nat)) × Unit) : evBody CC { call := X, loop := L } 162 (shsInj [(.agg [(.int .i64), (.int .i64), (.int .i64), (.int .i64), (.int .u32), (.int .u32), (.int .u32), (.int .u32), (.int .u32), (.int .u32), (.int .u32)]), (.cell .slice)] x) = f162 X L x := by kernel_rfl

/-- (*hayrick/store.Store).Save -/
def f163c0 (X : Task → M Value) (L : LoopI) (x : (Option Addr) × (Int × Int × Int × Int × Int × Int × Int × Int × Int × Int × Int × Unit) × (Bool) × Unit) (b0_ : Nat) (x1_ : Int × Int × Int × Int × Int × Int × Int × Int × Int × Int × Int × Unit) : M (Value) :=
 M.callS (.tuple [(.cell (.int .u32)), (.cell (.int .i64))]) (X (.call 133 [(.pointer x.1), (.iface 352 (.agg ⟨[(.int .i64 x1_.1), (.int .i64 x1_.2.1), (.int .i64 x1_.2.2.1), (.int .i64 x1_.2.2.2.1), (.int .u32 x1_.2.2.2.2.1), (.int .u32 x1_.2.2.2.2.2.1), (.int .u32 x1_.2.2.2.2.2.2.1), (.int .u32 x1_.2.2.2.2.2.2.2.1), (.int .u32 x1_.2.2.2.2.2.2.2.2.1), (.int .u32 x1_.2.2.2.2.2.2.2.2.2.1), (.int .u32 x1_.2.2.2.2.2.2.2.2.2.2.1)]⟩)), (.bool x.2.2.1)])) fun (r2_ : (Int) × (Int) × Unit) =>
 M.join (fun (j3_ : Unit) =>
 M.pure (.int .i64 r2_.2.1)) fun go4_ =>
 M.ite (r2_.2.1 == 0)
 (M.load (.cell (.int .i64)) 1 ((Addr.mk b0_ 0 none).add 0) fun (x6_ : Int) =>
 let v7_ : Int := IntKind.i64.wrap (x6_ - 1)
 M.deref x.1 fun a8_ =>
 M.guard (decide (0 ≤ v7_) && decide (v7_ < ((64 : Nat) : Int)))
 (M.store ((a8_.add 1).add ((Int.toNat v7_) * 1)) [(.int .u32 r2_.1)]
 (go4_ (()))))
 (go4_ (()))
def f163c1 (X : Task → M Value) (L : LoopI) (x : (Option Addr) × (Int × Int × Int × Int × Int × Int × Int × Int × Int × Int × Int × Unit) × (Bool) × Unit) : M (Value) :=
 M.new (.cells (Row.ofList [(.int .i64 x.2.1.1), (.int .i64 x.2.1.2.1), (.int .i64 x.2.1.2.2.1), (.int .i64 x.2.1.2.2.2.1), (.int .u32 x.2.1.2.2.2.2.1), (.int .u32 x.2.1.2.2.2.2.2.1), (.int .u32 x.2.1.2.2.2.2.2.2.1), (.int .u32 x.2.1.2.2.2.2.2.2.2.1), (.int .u32 x.2.1.2.2.2.2.2.2.2.2.1), (.int .u32 x.2.1.2.2.2.2.2.2.2.2.2.1), (.int .u32 x.2.1.2.2.2.2.2.2.2.2.2.2.1)]) 117 false (0, 0) false) fun b0_ =>
 M.load (.agg [(.int .i64), (.int .i64), (.int .i64), (.int .i64), (.int .u32), (.int .u32), (.int .u32), (.int .u32), (.int .u32), (.int .u32), (.int .u32)]) 11 (Addr.mk b0_ 0 none) fun (x1_ : Int × Int × Int × Int × Int × Int × Int × Int × Int × Int × Int × Unit) =>
 f163c0 X L x b0_ x1_
def f163 (X : Task → M Value) (L : LoopI) (x : (Option Addr) × (Int × Int × Int × Int × Int × Int × Int × Int × Int × Int × Int × Unit) × (Bool) × Unit) : M Value :=
 f163c1 X L x

theorem e163 (X : Task → M Value) (L : LoopI) (x : (Option Addr) × (Int × Int × Int × Int × Int × Int × Int × Int × Int × Int × Int × Unit) × (Bool) × Unit) : evBody CC { call := X, loop := L } 163 (shsInj [(.cell .ptr), (.agg [(.int .i64), (.int .i64), (.int .i64), (.int .i64), (.int .u32), (.int .u32), (.int .u32), (.int .u32), (.int .u32), (.int .u32), (.int .u32)]), (.cell .bool)] x) = f163 X L x := by kernel_rfl

/-- hayrick/hayrickref11.Blocks -/
def f164 (X : Task → M Value) (L : LoopI) (x : (Int) × Unit) : M Value :=
 M.ite (decide (x.1 < 1))
 (M.pure (.int .i64 0))
 (M.guard (!(decide (112 = 0)))
 (let v1_ : Int := IntKind.i64.wrap ((x.1 : Int).tdiv 112)
 M.join (fun (j2_ : (Int) × Unit) =>
 M.pure (.int .i64 j2_.1)) fun go3_ =>
 M.guard (!(decide (112 = 0)))
 (M.ite (decide (((x.1 : Int).tmod 112) > 0))
 (go3_ ((IntKind.i64.wrap (v1_ + 1)), ()))
 (go3_ (v1_, ())))))

theorem e164 (X : Task → M Value) (L : LoopI) (x : (Int) × Unit) : evBody CC { call := X, loop := L } 164 (shsInj [(.cell (.int .i64))] x) = f164 X L x := by kernel_rfl

/-- (*hayrick/hayrickref18.Store).Points -/
def f165c0 (X : Task → M Value) (L : LoopI) (x : (Option Addr) × (Int) × ((Option Addr × Nat × Nat)) × (Bool) × Unit) : M (Value) :=
 M.callS (.tuple [(.cell .slice), (.cell (.int .i64))]) (X (.call 229 [(.slice x.2.2.1.1 x.2.2.1.2.1 x.2.2.1.2.2)])) fun (r0_ : ((Option Addr × Nat × Nat)) × (Int) × Unit) =>
 M.ite (!(r0_.2.1 == 0))
 (M.pure (.tuple ⟨[(.int .u32 0), (.int .i64 1)]⟩))
 (M.deref x.1 fun a2_ =>
 M.load (.cell .ptr) 1 (a2_.add 0) fun (x3_ : Option Addr) =>
 M.callS (.tuple [(.cell (.int .u32)), (.cell (.int .i64))]) (X (.call 134 [(.pointer x3_), (.agg ⟨[(.int .i64 2), (.bool x.2.2.2.1), (.int .i64 x.2.1), (.int .i64 0)]⟩), (.slice r0_.1.1 r0_.1.2.1 r0_.1.2.2)])) fun (r4_ : (Int) × (Int) × Unit) =>
 M.pure (.tuple ⟨[(.int .u32 r4_.1), (.int .i64 r4_.2.1)]⟩))
def f165 (X : Task → M Value) (L : LoopI) (x : (Option Addr) × (Int) × ((Option Addr × Nat × Nat)) × (Bool) × Unit) : M Value :=
 f165c0 X L x

theorem e165 (X : Task → M Value) (L : LoopI) (x : (Option Addr) × (Int) × ((Option Addr × Nat × Nat)) × (Bool) × Unit) : evBody CC { call := X, loop := L } 165 (shsInj [(.cell .ptr), (.cell (.int .i64)), (.cell .slice), (.cell .bool)] x) = f165 X L x := by kernel_rfl

/-- (*hayrick/hayrickref18.Store).Save -/
def f166c0 (X : Task → M Value) (L : LoopI) (x : (Option Addr) × (Int × Int × Int × Int × Int × Int × Int × Int × Int × Int × Int × Unit) × (Bool) × Unit) (b0_ : Nat) (r2_ : ((Option Addr × Nat × Nat)) × (Int) × Unit) (x5_ : Option Addr) (x6_ : Int) : M (Value) :=
 M.callS (.tuple [(.cell (.int .u32)), (.cell (.int .i64))]) (X (.call 134 [(.pointer x5_), (.agg ⟨[(.int .i64 3), (.bool x.2.2.1), (.int .i64 x6_), (.int .i64 0)]⟩), (.slice r2_.1.1 r2_.1.2.1 r2_.1.2.2)])) fun (r7_ : (Int) × (Int) × Unit) =>
 M.ite (!(r7_.2.1 == 0))
 (M.pure (.int .i64 r7_.2.1))
 (M.load (.cell (.int .i64)) 1 ((Addr.mk b0_ 0 none).add 0) fun (x9_ : Int) =>
 let v10_ : Int := IntKind.i64.wrap (x9_ - 1)
 M.deref x.1 fun a11_ =>
 M.guard (decide (0 ≤ v10_) && decide (v10_ < ((64 : Nat) : Int)))
 (M.store ((a11_.add 1).add ((Int.toNat v10_) * 1)) [(.int .u32 r7_.1)]
 (M.pure (.int .i64 0))))
def f166c1 (X : Task → M Value) (L : LoopI) (x : (Option Addr) × (Int × Int × Int × Int × Int × Int × Int × Int × Int × Int × Int × Unit) × (Bool) × Unit) (b0_ : Nat) (x1_ : Int × Int × Int × Int × Int × Int × Int × Int × Int × Int × Int × Unit) : M (Value) :=
 M.callS (.tuple [(.cell .slice), (.cell (.int .i64))]) (X (.call 230 [(.agg ⟨[(.int .i64 x1_.1), (.int .i64 x1_.2.1), (.int .i64 x1_.2.2.1), (.int .i64 x1_.2.2.2.1), (.int .u32 x1_.2.2.2.2.1), (.int .u32 x1_.2.2.2.2.2.1), (.int .u32 x1_.2.2.2.2.2.2.1), (.int .u32 x1_.2.2.2.2.2.2.2.1), (.int .u32 x1_.2.2.2.2.2.2.2.2.1), (.int .u32 x1_.2.2.2.2.2.2.2.2.2.1), (.int .u32 x1_.2.2.2.2.2.2.2.2.2.2.1)]⟩)])) fun (r2_ : ((Option Addr × Nat × Nat)) × (Int) × Unit) =>
 M.ite (!(r2_.2.1 == 0))
 (M.pure (.int .i64 r2_.2.1))
 (M.deref x.1 fun a4_ =>
 M.load (.cell .ptr) 1 (a4_.add 0) fun (x5_ : Option Addr) =>
 M.load (.cell (.int .i64)) 1 ((Addr.mk b0_ 0 none).add 0) fun (x6_ : Int) =>
 f166c0 X L x b0_ r2_ x5_ x6_)
def f166c2 (X : Task → M Value) (L : LoopI) (x : (Option Addr) × (Int × Int × Int × Int × Int × Int × Int × Int × Int × Int × Int × Unit) × (Bool) × Unit) : M (Value) :=
 M.new (.cells (Row.ofList [(.int .i64 x.2.1.1), (.int .i64 x.2.1.2.1), (.int .i64 x.2.1.2.2.1), (.int .i64 x.2.1.2.2.2.1), (.int .u32 x.2.1.2.2.2.2.1), (.int .u32 x.2.1.2.2.2.2.2.1), (.int .u32 x.2.1.2.2.2.2.2.2.1), (.int .u32 x.2.1.2.2.2.2.2.2.2.1), (.int .u32 x.2.1.2.2.2.2.2.2.2.2.1), (.int .u32 x.2.1.2.2.2.2.2.2.2.2.2.1), (.int .u32 x.2.1.2.2.2.2.2.2.2.2.2.2.1)]) 117 false (0, 0) false) fun b0_ =>
 M.load (.agg [(.int .i64), (.int .i64), (.int .i64), (.int .i64), (.int .u32), (.int .u32), (.int .u32), (.int .u32), (.int .u32), (.int .u32), (.int .u32)]) 11 (Addr.mk b0_ 0 none) fun (x1_ : Int × Int × Int × Int × Int × Int × Int × Int × Int × Int × Int × Unit) =>
 f166c1 X L x b0_ x1_
def f166 (X : Task → M Value) (L : LoopI) (x : (Option Addr) × (Int × Int × Int × Int × Int × Int × Int × Int × Int × Int × Int × Unit) × (Bool) × Unit) : M Value :=
 f166c2 X L x

theorem e166 (X : Task → M Value) (L : LoopI) (x : (Option Addr) × (Int × Int × Int × Int × Int × Int × Int × Int × Int × Int × Int × Unit) × (Bool) × Unit) : evBody CC { call := X, loop := L } 166 (shsInj [(.cell .ptr), (.agg [(.int .i64), (.int .i64), (.int .i64), (.int .i64), (.int .u32), (.int .u32), (.int .u32), (.int .u32), (.int .u32), (.int .u32), (.int .u32)]), (.cell .bool)] x) = f166 X L x := by kernel_rfl

/-- hayrick/hayrickref12.May -/
def f167c0 (X : Task → M Value) (L : LoopI) (x : ((Option Addr × Nat × Nat)) × Unit) (s2_ : (Int) × Unit) (go8_ : ((Bool) × Unit) → M (((Int) × Unit) ⊕ ((Unit) ⊕ (((Bool) × Unit) ⊕ (Unit))))) (v11_ : Int) : M (((Int) × Unit) ⊕ ((Unit) ⊕ (((Bool) × Unit) ⊕ (Unit)))) :=
 M.guard (decide (0 ≤ v11_) && decide (v11_ < ((x.1.2.1 : Nat) : Int)))
 (M.deref x.1.1 fun a12_ =>
 M.load (.cell .string) 1 ((a12_.add ((Int.toNat v11_) * 2)).add 1) fun (x13_ : ByteArray) =>
 M.guard (decide (0 ≤ s2_.1) && decide (s2_.1 < ((x.1.2.1 : Nat) : Int)))
 (M.deref x.1.1 fun a14_ =>
 M.load (.cell .string) 1 ((a14_.add ((Int.toNat s2_.1) * 2)).add 1) fun (x15_ : ByteArray) =>
 M.callS (.one (.cell (.int .i64))) (X (.call 231 [(.string x13_), (.string x15_)])) fun (r16_ : Int) =>
 go8_ ((!(r16_ == (-1))), ())))
def f167c1 (X : Task → M Value) (L : LoopI) (x : ((Option Addr × Nat × Nat)) × Unit) (s2_ : (Int) × Unit) (go6_ : ((Bool) × Unit) → M (((Int) × Unit) ⊕ ((Unit) ⊕ (((Bool) × Unit) ⊕ (Unit))))) : M (((Int) × Unit) ⊕ ((Unit) ⊕ (((Bool) × Unit) ⊕ (Unit)))) :=
 M.guard (decide (0 ≤ s2_.1) && decide (s2_.1 < ((x.1.2.1 : Nat) : Int)))
 (M.deref x.1.1 fun a21_ =>
 M.load (.cell (.int .i64)) 1 ((a21_.add ((Int.toNat s2_.1) * 2)).add 0) fun (x22_ : Int) =>
 M.ite (decide (x22_ > 64))
 (go6_ (true, ()))
 (M.guard (decide (0 ≤ s2_.1) && decide (s2_.1 < ((x.1.2.1 : Nat) : Int)))
 (M.deref x.1.1 fun a24_ =>
 M.load (.cell .string) 1 ((a24_.add ((Int.toNat s2_.1) * 2)).add 1) fun (x25_ : ByteArray) =>
 M.callS (.one (.cell .bool)) (X (.call 190 [(.string x25_)])) fun (r26_ : Bool) =>
 go6_ ((!r26_), ()))))
def f167c2 (X : Task → M Value) (L : LoopI) (x : ((Option Addr × Nat × Nat)) × Unit) (s2_ : (Int) × Unit) : M (((Int) × Unit) ⊕ ((Unit) ⊕ (((Bool) × Unit) ⊕ (Unit)))) :=
 M.join (fun (j5_ : (Bool) × Unit) =>
 M.ite j5_.1
 (M.pure (.inr (.inr (.inl (false, ())))))
 (M.join (fun (j7_ : (Bool) × Unit) =>
 M.ite j7_.1
 (M.pure (.inr (.inr (.inl (false, ())))))
 (M.pure (.inl ((IntKind.i64.wrap (s2_.1 + 1)), ())))) fun go8_ =>
 M.ite (decide (s2_.1 > 0))
 (f167c0 X L x s2_ go8_ (IntKind.i64.wrap (s2_.1 - 1)))
 (go8_ (false, ())))) fun go6_ =>
 M.guard (decide (0 ≤ s2_.1) && decide (s2_.1 < ((x.1.2.1 : Nat) : Int)))
 (M.deref x.1.1 fun a18_ =>
 M.load (.cell (.int .i64)) 1 ((a18_.add ((Int.toNat s2_.1) * 2)).add 0) fun (x19_ : Int) =>
 M.ite (decide (x19_ < 1))
 (go6_ (true, ()))
 (f167c1 X L x s2_ go6_))
def f167 (X : Task → M Value) (L : LoopI) (x : ((Option Addr × Nat × Nat)) × Unit) : M Value :=
 M.ite (decide (((x.1.2.1 : Nat) : Int) > 64))
 (M.pure (.bool false))
 (M.bind (L (σ := (Int) × Unit) (ρ := (Unit) ⊕ (((Bool) × Unit) ⊕ (Unit))) (fun s2_ =>
 M.ite (decide (s2_.1 < ((x.1.2.1 : Nat) : Int)))
 (f167c2 X L x s2_)
 (M.pure (.inr (.inl (()))))) (0, ())) <| M.sum (fun (j28_ : Unit) =>
 M.pure (.bool true)) (M.sum (fun (j29_ : (Bool) × Unit) =>
 M.pure (.bool j29_.1)) (fun _ => M.stuck)))

theorem e167 (X : Task → M Value) (L : LoopI) (x : ((Option Addr × Nat × Nat)) × Unit) : evBody CC { call := X, loop := L } 167 (shsInj [(.cell .slice)] x) = f167 X L x := by kernel_rfl

/-- hayrick/files.with -/
def f168c0 (X : Task → M Value) (L : LoopI) (x : (Option Addr) × (Int) × (Value) × Unit) (b1_ : Nat) (r4_ : ((Option Addr × Nat × Nat)) × (Int) × Unit) : M (Value) :=
 M.load (.agg [(.int .i64), (.int .i64), (.int .i64), (.int .i64), (.int .u32), (.int .u32), (.int .u32), (.int .u32), (.int .u32), (.int .u32), (.int .u32)]) 11 (Addr.mk b1_ 0 none) fun (x6_ : Int × Int × Int × Int × Int × Int × Int × Int × Int × Int × Int × Unit) =>
 callV CC ⟨X, L⟩ x.2.2.1 [(.agg ⟨[(.int .i64 x6_.1), (.int .i64 x6_.2.1), (.int .i64 x6_.2.2.1), (.int .i64 x6_.2.2.2.1), (.int .u32 x6_.2.2.2.2.1), (.int .u32 x6_.2.2.2.2.2.1), (.int .u32 x6_.2.2.2.2.2.2.1), (.int .u32 x6_.2.2.2.2.2.2.2.1), (.int .u32 x6_.2.2.2.2.2.2.2.2.1), (.int .u32 x6_.2.2.2.2.2.2.2.2.2.1), (.int .u32 x6_.2.2.2.2.2.2.2.2.2.2.1)]⟩), (.slice r4_.1.1 r4_.1.2.1 r4_.1.2.2)] fun w8_ => M.need (RSh.prj (.one (.cell (.int .i64))) w8_) fun (r7_ : Int) =>
 M.pure (.int .i64 r7_)
def f168c1 (X : Task → M Value) (L : LoopI) (x : (Option Addr) × (Int) × (Value) × Unit) (b1_ : Nat) (x3_ : Int × Int × Int × Int × Int × Int × Int × Int × Int × Int × Int × Unit) : M (Value) :=
 M.callS (.tuple [(.cell .slice), (.cell (.int .i64))]) (X (.call 232 [(.pointer x.1), (.agg ⟨[(.int .i64 x3_.1), (.int .i64 x3_.2.1), (.int .i64 x3_.2.2.1), (.int .i64 x3_.2.2.2.1), (.int .u32 x3_.2.2.2.2.1), (.int .u32 x3_.2.2.2.2.2.1), (.int .u32 x3_.2.2.2.2.2.2.1), (.int .u32 x3_.2.2.2.2.2.2.2.1), (.int .u32 x3_.2.2.2.2.2.2.2.2.1), (.int .u32 x3_.2.2.2.2.2.2.2.2.2.1), (.int .u32 x3_.2.2.2.2.2.2.2.2.2.2.1)]⟩)])) fun (r4_ : ((Option Addr × Nat × Nat)) × (Int) × Unit) =>
 M.ite (!(r4_.2.1 == 0))
 (M.pure (.int .i64 r4_.2.1))
 (f168c0 X L x b1_ r4_)
def f168c2 (X : Task → M Value) (L : LoopI) (x : (Option Addr) × (Int) × (Value) × Unit) (r0_ : (Int × Int × Int × Int × Int × Int × Int × Int × Int × Int × Int × Unit) × (Int) × Unit) (b1_ : Nat) : M (Value) :=
 M.store (Addr.mk b1_ 0 none) [(.int .i64 r0_.1.1), (.int .i64 r0_.1.2.1), (.int .i64 r0_.1.2.2.1), (.int .i64 r0_.1.2.2.2.1), (.int .u32 r0_.1.2.2.2.2.1), (.int .u32 r0_.1.2.2.2.2.2.1), (.int .u32 r0_.1.2.2.2.2.2.2.1), (.int .u32 r0_.1.2.2.2.2.2.2.2.1), (.int .u32 r0_.1.2.2.2.2.2.2.2.2.1), (.int .u32 r0_.1.2.2.2.2.2.2.2.2.2.1), (.int .u32 r0_.1.2.2.2.2.2.2.2.2.2.2.1)]
 (M.ite (!(r0_.2.1 == 0))
 (M.pure (.int .i64 r0_.2.1))
 (M.load (.agg [(.int .i64), (.int .i64), (.int .i64), (.int .i64), (.int .u32), (.int .u32), (.int .u32), (.int .u32), (.int .u32), (.int .u32), (.int .u32)]) 11 (Addr.mk b1_ 0 none) fun (x3_ : Int × Int × Int × Int × Int × Int × Int × Int × Int × Int × Int × Unit) =>
 f168c1 X L x b1_ x3_))
def f168c3 (X : Task → M Value) (L : LoopI) (x : (Option Addr) × (Int) × (Value) × Unit) : M (Value) :=
 M.callS (.tuple [(.agg [(.int .i64), (.int .i64), (.int .i64), (.int .i64), (.int .u32), (.int .u32), (.int .u32), (.int .u32), (.int .u32), (.int .u32), (.int .u32)]), (.cell (.int .i64))]) (X (.call 112 [(.pointer x.1), (.int .i64 x.2.1)])) fun (r0_ : (Int × Int × Int × Int × Int × Int × Int × Int × Int × Int × Int × Unit) × (Int) × Unit) =>
 M.new (.cells (Row.ofList [(.int .i64 0), (.int .i64 0), (.int .i64 0), (.int .i64 0), (.int .u32 0), (.int .u32 0), (.int .u32 0), (.int .u32 0), (.int .u32 0), (.int .u32 0), (.int .u32 0)]) 117 false (0, 0) false) fun b1_ =>
 f168c2 X L x r0_ b1_
def f168 (X : Task → M Value) (L : LoopI) (x : (Option Addr) × (Int) × (Value) × Unit) : M Value :=
 f168c3 X L x

theorem e168 (X : Task → M Value) (L : LoopI) (x : (Option Addr) × (Int) × (Value) × Unit) : evBody CC { call := X, loop := L } 168 (shsInj [(.cell .ptr), (.cell (.int .i64)), (.cell .val)] x) = f168 X L x := by kernel_rfl

/-- hayrick/files.Read$1 -/
def f169c0 (X : Task → M Value) (L : LoopI) (x : (Int × Int × Int × Int × Int × Int × Int × Int × Int × Int × Int × Unit) × ((Option Addr × Nat × Nat)) × (Option Addr) × (Option Addr) × (Option Addr) × (Option Addr) × Unit) (s23_ : (Int) × Unit) (r33_ : ((Option Addr × Nat × Nat)) × (Int) × Unit) (x37_ : (Option Addr × Nat × Nat)) (x38_ : Int) (x39_ : Int) (x40_ : Int) : M (((Int) × Unit) ⊕ ((Unit) ⊕ (((Int) × Unit) ⊕ (Unit)))) :=
 M.guard (decide (0 ≤ x40_) && decide (x40_ ≤ ((r33_.1.2.2 : Nat) : Int)))
 (let v41_ : Nat := (Int.toNat x40_)
 M.guard (decide (0 ≤ x39_) && decide (x39_ ≤ ((v41_ : Nat) : Int)))
 (let v42_ : Nat := (Int.toNat x39_)
 M.guard (decide (0 ≤ x38_) && decide (x38_ ≤ ((v42_ : Nat) : Int)))
 (let v43_ : Nat := (Int.toNat x38_)
 M.append 5 1 1 x37_.1 x37_.2.1 x37_.2.2 (.slice (r33_.1.1.map (·.add (v43_ * 1))) (v42_ - v43_) (v41_ - v43_)) fun a44_ n45_ c46_ =>
 M.deref x.2.2.2.2.2.1 fun a47_ =>
 M.store a47_ [(.slice a44_ n45_ c46_)]
 (M.pure (.inl ((IntKind.i64.wrap (s23_.1 + 1)), ()))))))
def f169c1 (X : Task → M Value) (L : LoopI) (x : (Int × Int × Int × Int × Int × Int × Int × Int × Int × Int × Int × Unit) × ((Option Addr × Nat × Nat)) × (Option Addr) × (Option Addr) × (Option Addr) × (Option Addr) × Unit) (s23_ : (Int) × Unit) (b27_ : Nat) (r33_ : ((Option Addr × Nat × Nat)) × (Int) × Unit) (v34_ : Bool) : M (((Int) × Unit) ⊕ ((Unit) ⊕ (((Int) × Unit) ⊕ (Unit)))) :=
 M.ite v34_
 (M.deref x.2.2.2.2.2.1 fun a35_ =>
 M.store a35_ [(.slice none 0 0)]
 (M.pure (.inr (.inr (.inl (r33_.2.1, ()))))))
 (M.deref x.2.2.2.2.2.1 fun a36_ =>
 M.load (.cell .slice) 1 a36_ fun (x37_ : (Option Addr × Nat × Nat)) =>
 M.load (.cell (.int .i64)) 1 ((Addr.mk b27_ 0 none).add 1) fun (x38_ : Int) =>
 M.load (.cell (.int .i64)) 1 ((Addr.mk b27_ 0 none).add 2) fun (x39_ : Int) =>
 M.load (.cell (.int .i64)) 1 ((Addr.mk b27_ 0 none).add 2) fun (x40_ : Int) =>
 f169c0 X L x s23_ r33_ x37_ x38_ x39_ x40_)
def f169c2 (X : Task → M Value) (L : LoopI) (x : (Int × Int × Int × Int × Int × Int × Int × Int × Int × Int × Int × Unit) × ((Option Addr × Nat × Nat)) × (Option Addr) × (Option Addr) × (Option Addr) × (Option Addr) × Unit) (s23_ : (Int) × Unit) (b27_ : Nat) : M (((Int) × Unit) ⊕ ((Unit) ⊕ (((Int) × Unit) ⊕ (Unit)))) :=
 M.deref x.2.2.2.2.1 fun a28_ =>
 M.load (.cell .ptr) 1 a28_ fun (x29_ : Option Addr) =>
 M.load (.cell (.int .i64)) 1 ((Addr.mk b27_ 0 none).add 0) fun (x30_ : Int) =>
 M.guard (decide (0 ≤ x30_) && decide (x30_ < ((x.2.1.2.1 : Nat) : Int)))
 (M.deref x.2.1.1 fun a31_ =>
 M.load (.cell (.int .u32)) 1 (a31_.add ((Int.toNat x30_) * 1)) fun (x32_ : Int) =>
 M.callS (.tuple [(.cell .slice), (.cell (.int .i64))]) (X (.call 171 [(.pointer x29_), (.int .u32 x32_)])) fun (r33_ : ((Option Addr × Nat × Nat)) × (Int) × Unit) =>
 f169c1 X L x s23_ b27_ r33_ (!(r33_.2.1 == 0)))
def f169c3 (X : Task → M Value) (L : LoopI) (x : (Int × Int × Int × Int × Int × Int × Int × Int × Int × Int × Int × Unit) × ((Option Addr × Nat × Nat)) × (Option Addr) × (Option Addr) × (Option Addr) × (Option Addr) × Unit) (r20_ : ((Option Addr × Nat × Nat)) × (Int) × Unit) (s23_ : (Int) × Unit) : M (((Int) × Unit) ⊕ ((Unit) ⊕ (((Int) × Unit) ⊕ (Unit)))) :=
 M.guard (decide (0 ≤ s23_.1) && decide (s23_.1 < ((r20_.1.2.1 : Nat) : Int)))
 (M.deref r20_.1.1 fun a25_ =>
 M.load (.agg [(.int .i64), (.int .i64), (.int .i64), (.int .i64)]) 4 (a25_.add ((Int.toNat s23_.1) * 4)) fun (x26_ : Int × Int × Int × Int × Unit) =>
 M.new (.cells (Row.ofList [(.int .i64 0), (.int .i64 0), (.int .i64 0), (.int .i64 0)]) 272 false (0, 0) false) fun b27_ =>
 M.store (Addr.mk b27_ 0 none) [(.int .i64 x26_.1), (.int .i64 x26_.2.1), (.int .i64 x26_.2.2.1), (.int .i64 x26_.2.2.2.1)]
 (f169c2 X L x s23_ b27_))
def f169c4 (X : Task → M Value) (L : LoopI) (x : (Int × Int × Int × Int × Int × Int × Int × Int × Int × Int × Int × Unit) × ((Option Addr × Nat × Nat)) × (Option Addr) × (Option Addr) × (Option Addr) × (Option Addr) × Unit) (x17_ : Int) (x19_ : Int) : M (Value) :=
 M.callS (.tuple [(.cell .slice), (.cell (.int .i64))]) (X (.call 170 [(.int .i64 x17_), (.int .i64 x19_)])) fun (r20_ : ((Option Addr × Nat × Nat)) × (Int) × Unit) =>
 M.ite (!(r20_.2.1 == 0))
 (M.pure (.int .i64 r20_.2.1))
 (M.bind (L (σ := (Int) × Unit) (ρ := (Unit) ⊕ (((Int) × Unit) ⊕ (Unit))) (fun s23_ =>
 M.ite (decide (s23_.1 < ((r20_.1.2.1 : Nat) : Int)))
 (f169c3 X L x r20_ s23_)
 (M.pure (.inr (.inl (()))))) (0, ())) <| M.sum (fun (j49_ : Unit) =>
 M.pure (.int .i64 0)) (M.sum (fun (j50_ : (Int) × Unit) =>
 M.pure (.int .i64 j50_.1)) (fun _ => M.stuck)))
def f169c5 (X : Task → M Value) (L : LoopI) (x : (Int × Int × Int × Int × Int × Int × Int × Int × Int × Int × Int × Unit) × ((Option Addr × Nat × Nat)) × (Option Addr) × (Option Addr) × (Option Addr) × (Option Addr) × Unit) (b0_ : Nat) : M (Value) :=
 M.deref x.2.2.2.1 fun a8_ =>
 M.load (.cell (.int .i64)) 1 a8_ fun (x9_ : Int) =>
 M.load (.cell (.int .i64)) 1 ((Addr.mk b0_ 0 none).add 2) fun (x10_ : Int) =>
 M.deref x.2.2.1 fun a11_ =>
 M.load (.cell (.int .i64)) 1 a11_ fun (x12_ : Int) =>
 let v13_ : Int := IntKind.i64.wrap (x10_ - x12_)
 M.deref x.2.2.2.1 fun a15_ =>
 M.store a15_ [(.int .i64 (if v13_ < x9_ then v13_ else x9_))]
 (M.deref x.2.2.1 fun a16_ =>
 M.load (.cell (.int .i64)) 1 a16_ fun (x17_ : Int) =>
 M.deref x.2.2.2.1 fun a18_ =>
 M.load (.cell (.int .i64)) 1 a18_ fun (x19_ : Int) =>
 f169c4 X L x x17_ x19_)
def f169c6 (X : Task → M Value) (L : LoopI) (x : (Int × Int × Int × Int × Int × Int × Int × Int × Int × Int × Int × Unit) × ((Option Addr × Nat × Nat)) × (Option Addr) × (Option Addr) × (Option Addr) × (Option Addr) × Unit) (b0_ : Nat) : M (Value) :=
 M.join (fun (j1_ : (Bool) × Unit) =>
 M.ite j1_.1
 (M.pure (.int .i64 1))
 (M.deref x.2.2.1 fun a3_ =>
 M.load (.cell (.int .i64)) 1 a3_ fun (x4_ : Int) =>
 M.load (.cell (.int .i64)) 1 ((Addr.mk b0_ 0 none).add 2) fun (x5_ : Int) =>
 M.deref x.2.2.1 fun a7_ =>
 M.store a7_ [(.int .i64 (if x5_ < x4_ then x5_ else x4_))]
 (f169c5 X L x b0_))) fun go2_ =>
 M.deref x.2.2.1 fun a51_ =>
 M.load (.cell (.int .i64)) 1 a51_ fun (x52_ : Int) =>
 M.ite (decide (x52_ < 0))
 (go2_ (true, ()))
 (M.deref x.2.2.2.1 fun a54_ =>
 M.load (.cell (.int .i64)) 1 a54_ fun (x55_ : Int) =>
 go2_ ((decide (x55_ < 0)), ()))
def f169 (X : Task → M Value) (L : LoopI) (x : (Int × Int × Int × Int × Int × Int × Int × Int × Int × Int × Int × Unit) × ((Option Addr × Nat × Nat)) × (Option Addr) × (Option Addr) × (Option Addr) × (Option Addr) × Unit) : M Value :=
 M.new (.cells (Row.ofList [(.int .i64 x.1.1), (.int .i64 x.1.2.1), (.int .i64 x.1.2.2.1), (.int .i64 x.1.2.2.2.1), (.int .u32 x.1.2.2.2.2.1), (.int .u32 x.1.2.2.2.2.2.1), (.int .u32 x.1.2.2.2.2.2.2.1), (.int .u32 x.1.2.2.2.2.2.2.2.1), (.int .u32 x.1.2.2.2.2.2.2.2.2.1), (.int .u32 x.1.2.2.2.2.2.2.2.2.2.1), (.int .u32 x.1.2.2.2.2.2.2.2.2.2.2.1)]) 117 false (0, 0) false) fun b0_ =>
 f169c6 X L x b0_

theorem e169 (X : Task → M Value) (L : LoopI) (x : (Int × Int × Int × Int × Int × Int × Int × Int × Int × Int × Int × Unit) × ((Option Addr × Nat × Nat)) × (Option Addr) × (Option Addr) × (Option Addr) × (Option Addr) × Unit) : evBody CC { call := X, loop := L } 169 (shsInj [(.agg [(.int .i64), (.int .i64), (.int .i64), (.int .i64), (.int .u32), (.int .u32), (.int .u32), (.int .u32), (.int .u32), (.int .u32), (.int .u32)]), (.cell .slice), (.cell .ptr), (.cell .ptr), (.cell .ptr), (.cell .ptr)] x) = f169 X L x := by kernel_rfl

/-- hayrick/points.Cut -/
def f170c0 (X : Task → M Value) (L : LoopI) (x : (Int) × (Int) × Unit) (s4_ : ((Option Addr × Nat × Nat)) × (Int) × Unit) (v7_ : Int) (v9_ : Int) : M ((((Option Addr × Nat × Nat)) × (Int) × Unit) ⊕ ((((Option Addr × Nat × Nat)) × Unit) ⊕ (Unit))) :=
 let v10_ : Int := (if v9_ < 112 then v9_ else 112)
 M.guard (!(decide (112 = 0)))
 (M.new (.cells (Row.ofList [(.int .i64 (IntKind.i64.wrap (((IntKind.i64.wrap (x.1 + s4_.2.1)) : Int).tdiv 112))), (.int .i64 v7_), (.int .i64 v10_), (.int .i64 s4_.2.1)]) 272 false (0, 0) false) fun b13_ =>
 M.append 272 4 32 s4_.1.1 s4_.1.2.1 s4_.1.2.2 (.slice (some (Addr.mk b13_ 0 none)) 1 1) fun a14_ n15_ c16_ =>
 M.pure (.inl ((a14_, n15_, c16_), (IntKind.i64.wrap (s4_.2.1 + (IntKind.i64.wrap (v10_ - v7_)))), ())))
def f170c1 (X : Task → M Value) (L : LoopI) (x : (Int) × (Int) × Unit) : M (Value) :=
 M.bind (L (σ := ((Option Addr × Nat × Nat)) × (Int) × Unit) (ρ := (((Option Addr × Nat × Nat)) × Unit) ⊕ (Unit)) (fun s4_ =>
 M.ite (decide (s4_.2.1 < x.2.1))
 (M.guard (!(decide (112 = 0)))
 (let v7_ : Int := ((IntKind.i64.wrap (x.1 + s4_.2.1)) : Int).tmod 112
 f170c0 X L x s4_ v7_ (IntKind.i64.wrap ((IntKind.i64.wrap (v7_ + x.2.1)) - s4_.2.1))))
 (M.pure (.inr (.inl (s4_.1, ()))))) ((none, 0, 0), 0, ())) <| M.sum (fun (j19_ : ((Option Addr × Nat × Nat)) × Unit) =>
 M.pure (.tuple ⟨[(.slice j19_.1.1 j19_.1.2.1 j19_.1.2.2), (.int .i64 0)]⟩)) (fun _ => M.stuck)
def f170 (X : Task → M Value) (L : LoopI) (x : (Int) × (Int) × Unit) : M Value :=
 M.join (fun (j0_ : (Bool) × Unit) =>
 M.ite j0_.1
 (M.pure (.tuple ⟨[(.slice none 0 0), (.int .i64 1)]⟩))
 (M.join (fun (j2_ : (Bool) × Unit) =>
 M.ite j2_.1
 (M.pure (.tuple ⟨[(.slice none 0 0), (.int .i64 39)]⟩))
 (f170c1 X L x)) fun go3_ =>
 M.ite (decide (x.1 > 3808))
 (go3_ (true, ()))
 (go3_ ((decide (x.2.1 > (IntKind.i64.wrap (3808 - x.1)))), ())))) fun go1_ =>
 M.ite (decide (x.1 < 0))
 (go1_ (true, ()))
 (go1_ ((decide (x.2.1 < 0)), ()))

theorem e170 (X : Task → M Value) (L : LoopI) (x : (Int) × (Int) × Unit) : evBody CC { call := X, loop := L } 170 (shsInj [(.cell (.int .i64)), (.cell (.int .i64))] x) = f170 X L x := by kernel_rfl

/-- hayrick/files.block -/
def f171c0 (X : Task → M Value) (L : LoopI) (x : (Option Addr) × (Int) × Unit) (v0_ : Bool) : M (Value) :=
 M.ite v0_
 (M.guard (decide (0 ≤ 112) && decide (112 ≤ 112) && decide ((1 : Int) * 112 ≤ 2 ^ 48))
 (M.new (.cells (Row.rep [(.int .u8 0)] (Int.toNat 112)) 5 false (0, 0) false) fun b1_ =>
 M.pure (.tuple ⟨[(.slice (some (Addr.mk b1_ 0 none)) (Int.toNat 112) (Int.toNat 112)), (.int .i64 0)]⟩)))
 (M.callS (.one (.cell .ptr)) (X (.call 51 [(.pointer x.1)])) fun (r2_ : Option Addr) =>
 M.callS (.tuple [(.cell .slice), (.cell (.int .i64))]) (X (.call 174 [(.pointer r2_), (.int .u32 x.2.1)])) fun (r3_ : ((Option Addr × Nat × Nat)) × (Int) × Unit) =>
 M.pure (.tuple ⟨[(.slice r3_.1.1 r3_.1.2.1 r3_.1.2.2), (.int .i64 r3_.2.1)]⟩))
def f171 (X : Task → M Value) (L : LoopI) (x : (Option Addr) × (Int) × Unit) : M Value :=
 f171c0 X L x (x.2.1 == 0)

theorem e171 (X : Task → M Value) (L : LoopI) (x : (Option Addr) × (Int) × Unit) : evBody CC { call := X, loop := L } 171 (shsInj [(.cell .ptr), (.cell (.int .u32))] x) = f171 X L x := by kernel_rfl

/-- slices.Chunk[[]byte,byte] -/
def f172 (X : Task → M Value) (L : LoopI) (x : ((Option Addr × Nat × Nat)) × (Int) × Unit) : M Value :=
 M.new (.cells (Row.ofList [(.slice x.1.1 x.1.2.1 x.1.2.2)]) 30 false (0, 0) false) fun b0_ =>
 M.new (.cells (Row.ofList [(.int .i64 x.2.1)]) 3 false (0, 0) false) fun b1_ =>
 M.join (fun (j2_ : Unit) =>
 M.pure (.func (.func 233) ⟨[]⟩ ⟨[(.pointer (some (Addr.mk b0_ 0 none))), (.pointer (some (Addr.mk b1_ 0 none)))]⟩)) fun go3_ =>
 M.load (.cell (.int .i64)) 1 (Addr.mk b1_ 0 none) fun (x4_ : Int) =>
 M.ite (decide (x4_ < 1))
 (M.throw (.iface 9 (.string st23)))
 (go3_ (()))

theorem e172 (X : Task → M Value) (L : LoopI) (x : ((Option Addr × Nat × Nat)) × (Int) × Unit) : evBody CC { call := X, loop := L } 172 (shsInj [(.cell .slice), (.cell (.int .i64))] x) = f172 X L x := by kernel_rfl

/-- slices.Equal[[]byte,byte] -/
def f173c0 (X : Task → M Value) (L : LoopI) (x : ((Option Addr × Nat × Nat)) × ((Option Addr × Nat × Nat)) × Unit) (s4_ : (Int) × Unit) (v5_ : Bool) : M (((Int) × Unit) ⊕ ((Unit) ⊕ (((Bool) × Unit) ⊕ (Unit)))) :=
 M.ite v5_
 (M.guard (decide (0 ≤ s4_.1) && decide (s4_.1 < ((x.1.2.1 : Nat) : Int)))
 (M.deref x.1.1 fun a6_ =>
 M.load (.cell (.int .u8)) 1 (a6_.add ((Int.toNat s4_.1) * 1)) fun (x7_ : Int) =>
 M.guard (decide (0 ≤ s4_.1) && decide (s4_.1 < ((x.2.1.2.1 : Nat) : Int)))
 (M.deref x.2.1.1 fun a8_ =>
 M.load (.cell (.int .u8)) 1 (a8_.add ((Int.toNat s4_.1) * 1)) fun (x9_ : Int) =>
 M.ite (!(x7_ == x9_))
 (M.pure (.inr (.inr (.inl (false, ())))))
 (M.pure (.inl ((IntKind.i64.wrap (s4_.1 + 1)), ()))))))
 (M.pure (.inr (.inl (()))))
def f173 (X : Task → M Value) (L : LoopI) (x : ((Option Addr × Nat × Nat)) × ((Option Addr × Nat × Nat)) × Unit) : M Value :=
 M.ite (!(((x.1.2.1 : Nat) : Int) == ((x.2.1.2.1 : Nat) : Int)))
 (M.pure (.bool false))
 (M.bind (L (σ := (Int) × Unit) (ρ := (Unit) ⊕ (((Bool) × Unit) ⊕ (Unit))) (fun s4_ =>
 f173c0 X L x s4_ (decide (s4_.1 < ((x.1.2.1 : Nat) : Int)))) (0, ())) <| M.sum (fun (j12_ : Unit) =>
 M.pure (.bool true)) (M.sum (fun (j13_ : (Bool) × Unit) =>
 M.pure (.bool j13_.1)) (fun _ => M.stuck)))

theorem e173 (X : Task → M Value) (L : LoopI) (x : ((Option Addr × Nat × Nat)) × ((Option Addr × Nat × Nat)) × Unit) : evBody CC { call := X, loop := L } 173 (shsInj [(.cell .slice), (.cell .slice)] x) = f173 X L x := by kernel_rfl

/-- (*hayrick/logs.Log).Block -/
def f174c0 (X : Task → M Value) (L : LoopI) (b0_ : Nat) (b1_ : Nat) (b2_ : Nat) (x3_ : Option Addr) : M (Value) :=
 M.callS (.one (.cell (.int .i64))) (X (.call 135 [(.pointer x3_), (.func (.func 234) ⟨[]⟩ ⟨[(.pointer (some (Addr.mk b0_ 0 none))), (.pointer (some (Addr.mk b1_ 0 none))), (.pointer (some (Addr.mk b2_ 0 none)))]⟩)])) fun (r4_ : Int) =>
 M.load (.cell .slice) 1 (Addr.mk b2_ 0 none) fun (x5_ : (Option Addr × Nat × Nat)) =>
 M.store (Addr.mk b2_ 0 none) [(.slice x5_.1 x5_.2.1 x5_.2.2)]
 (M.load (.cell .slice) 1 (Addr.mk b2_ 0 none) fun (x6_ : (Option Addr × Nat × Nat)) =>
 M.pure (.tuple ⟨[(.slice x6_.1 x6_.2.1 x6_.2.2), (.int .i64 r4_)]⟩))
def f174 (X : Task → M Value) (L : LoopI) (x : (Option Addr) × (Int) × Unit) : M Value :=
 M.new (.cells (Row.ofList [(.pointer x.1)]) 110 false (0, 0) false) fun b0_ =>
 M.new (.cells (Row.ofList [(.int .u32 x.2.1)]) 86 false (0, 0) false) fun b1_ =>
 M.new (.cells (Row.ofList [(.slice none 0 0)]) 30 false (0, 0) false) fun b2_ =>
 M.load (.cell .ptr) 1 (Addr.mk b0_ 0 none) fun (x3_ : Option Addr) =>
 f174c0 X L b0_ b1_ b2_ x3_

theorem e174 (X : Task → M Value) (L : LoopI) (x : (Option Addr) × (Int) × Unit) : evBody CC { call := X, loop := L } 174 (shsInj [(.cell .ptr), (.cell (.int .u32))] x) = f174 X L x := by kernel_rfl

/-- hayrick/inode.Take -/
def f175c0 (X : Task → M Value) (L : LoopI) (b0_ : Nat) : M (Value) :=
 M.load (.agg [(.int .i64), (.int .i64), (.int .i64), (.int .i64), (.int .u32), (.int .u32), (.int .u32), (.int .u32), (.int .u32), (.int .u32), (.int .u32)]) 11 (Addr.mk b0_ 0 none) fun (x3_ : Int × Int × Int × Int × Int × Int × Int × Int × Int × Int × Int × Unit) =>
 M.pure (.tuple ⟨[(.agg ⟨[(.int .i64 x3_.1), (.int .i64 x3_.2.1), (.int .i64 x3_.2.2.1), (.int .i64 x3_.2.2.2.1), (.int .u32 x3_.2.2.2.2.1), (.int .u32 x3_.2.2.2.2.2.1), (.int .u32 x3_.2.2.2.2.2.2.1), (.int .u32 x3_.2.2.2.2.2.2.2.1), (.int .u32 x3_.2.2.2.2.2.2.2.2.1), (.int .u32 x3_.2.2.2.2.2.2.2.2.2.1), (.int .u32 x3_.2.2.2.2.2.2.2.2.2.2.1)]⟩), (.int .i64 4)]⟩)
def f175c1 (X : Task → M Value) (L : LoopI) (b0_ : Nat) : M (Value) :=
 M.load (.agg [(.int .i64), (.int .i64), (.int .i64), (.int .i64), (.int .u32), (.int .u32), (.int .u32), (.int .u32), (.int .u32), (.int .u32), (.int .u32)]) 11 (Addr.mk b0_ 0 none) fun (x6_ : Int × Int × Int × Int × Int × Int × Int × Int × Int × Int × Int × Unit) =>
 M.pure (.tuple ⟨[(.agg ⟨[(.int .i64 x6_.1), (.int .i64 x6_.2.1), (.int .i64 x6_.2.2.1), (.int .i64 x6_.2.2.2.1), (.int .u32 x6_.2.2.2.2.1), (.int .u32 x6_.2.2.2.2.2.1), (.int .u32 x6_.2.2.2.2.2.2.1), (.int .u32 x6_.2.2.2.2.2.2.2.1), (.int .u32 x6_.2.2.2.2.2.2.2.2.1), (.int .u32 x6_.2.2.2.2.2.2.2.2.2.1), (.int .u32 x6_.2.2.2.2.2.2.2.2.2.2.1)]⟩), (.int .i64 3)]⟩)
def f175c2 (X : Task → M Value) (L : LoopI) (b0_ : Nat) : M (Value) :=
 M.load (.agg [(.int .i64), (.int .i64), (.int .i64), (.int .i64), (.int .u32), (.int .u32), (.int .u32), (.int .u32), (.int .u32), (.int .u32), (.int .u32)]) 11 (Addr.mk b0_ 0 none) fun (x25_ : Int × Int × Int × Int × Int × Int × Int × Int × Int × Int × Int × Unit) =>
 M.pure (.tuple ⟨[(.agg ⟨[(.int .i64 x25_.1), (.int .i64 x25_.2.1), (.int .i64 x25_.2.2.1), (.int .i64 x25_.2.2.2.1), (.int .u32 x25_.2.2.2.2.1), (.int .u32 x25_.2.2.2.2.2.1), (.int .u32 x25_.2.2.2.2.2.2.1), (.int .u32 x25_.2.2.2.2.2.2.2.1), (.int .u32 x25_.2.2.2.2.2.2.2.2.1), (.int .u32 x25_.2.2.2.2.2.2.2.2.2.1), (.int .u32 x25_.2.2.2.2.2.2.2.2.2.2.1)]⟩), (.int .i64 5)]⟩)
def f175c3 (X : Task → M Value) (L : LoopI) (b0_ : Nat) : M (Value) :=
 M.load (.agg [(.int .i64), (.int .i64), (.int .i64), (.int .i64), (.int .u32), (.int .u32), (.int .u32), (.int .u32), (.int .u32), (.int .u32), (.int .u32)]) 11 (Addr.mk b0_ 0 none) fun (x27_ : Int × Int × Int × Int × Int × Int × Int × Int × Int × Int × Int × Unit) =>
 M.pure (.tuple ⟨[(.agg ⟨[(.int .i64 x27_.1), (.int .i64 x27_.2.1), (.int .i64 x27_.2.2.1), (.int .i64 x27_.2.2.2.1), (.int .u32 x27_.2.2.2.2.1), (.int .u32 x27_.2.2.2.2.2.1), (.int .u32 x27_.2.2.2.2.2.2.1), (.int .u32 x27_.2.2.2.2.2.2.2.1), (.int .u32 x27_.2.2.2.2.2.2.2.2.1), (.int .u32 x27_.2.2.2.2.2.2.2.2.2.1), (.int .u32 x27_.2.2.2.2.2.2.2.2.2.2.1)]⟩), (.int .i64 0)]⟩)
def f175c4 (X : Task → M Value) (L : LoopI) (b0_ : Nat) (b12_ : Nat) : M (Value) :=
 M.load (.agg [(.int .i64), (.int .i64), (.int .i64), (.int .i64), (.int .u32), (.int .u32), (.int .u32), (.int .u32), (.int .u32), (.int .u32), (.int .u32)]) 11 (Addr.mk b12_ 0 none) fun (x26_ : Int × Int × Int × Int × Int × Int × Int × Int × Int × Int × Int × Unit) =>
 M.store (Addr.mk b0_ 0 none) [(.int .i64 x26_.1), (.int .i64 x26_.2.1), (.int .i64 x26_.2.2.1), (.int .i64 x26_.2.2.2.1), (.int .u32 x26_.2.2.2.2.1), (.int .u32 x26_.2.2.2.2.2.1), (.int .u32 x26_.2.2.2.2.2.2.1), (.int .u32 x26_.2.2.2.2.2.2.2.1), (.int .u32 x26_.2.2.2.2.2.2.2.2.1), (.int .u32 x26_.2.2.2.2.2.2.2.2.2.1), (.int .u32 x26_.2.2.2.2.2.2.2.2.2.2.1)]
 (f175c3 X L b0_)
def f175c5 (X : Task → M Value) (L : LoopI) (x : ((Option Addr × Nat × Nat)) × Unit) (b0_ : Nat) (b12_ : Nat) (r22_ : ((Option Addr × Nat × Nat)) × (Int) × Unit) : M (Value) :=
 M.join (fun (j23_ : (Bool) × Unit) =>
 M.ite j23_.1
 (M.store (Addr.mk b0_ 0 none) [(.int .i64 0), (.int .i64 0), (.int .i64 0), (.int .i64 0), (.int .u32 0), (.int .u32 0), (.int .u32 0), (.int .u32 0), (.int .u32 0), (.int .u32 0), (.int .u32 0)]
 (f175c2 X L b0_))
 (f175c4 X L b0_ b12_)) fun go24_ =>
 M.ite (!(r22_.2.1 == 0))
 (go24_ (true, ()))
 (M.callS (.one (.cell .bool)) (X (.call 173 [(.slice r22_.1.1 r22_.1.2.1 r22_.1.2.2), (.slice x.1.1 x.1.2.1 x.1.2.2)])) fun (r29_ : Bool) =>
 go24_ ((!r29_), ()))
def f175c6 (X : Task → M Value) (L : LoopI) (x : ((Option Addr × Nat × Nat)) × Unit) (b0_ : Nat) (b12_ : Nat) : M (Value) :=
 M.load (.agg [(.int .i64), (.int .i64), (.int .i64), (.int .i64), (.int .u32), (.int .u32), (.int .u32), (.int .u32), (.int .u32), (.int .u32), (.int .u32)]) 11 (Addr.mk b12_ 0 none) fun (x21_ : Int × Int × Int × Int × Int × Int × Int × Int × Int × Int × Int × Unit) =>
 M.callS (.tuple [(.cell .slice), (.cell (.int .i64))]) (X (.call 240 [(.agg ⟨[(.int .i64 x21_.1), (.int .i64 x21_.2.1), (.int .i64 x21_.2.2.1), (.int .i64 x21_.2.2.2.1), (.int .u32 x21_.2.2.2.2.1), (.int .u32 x21_.2.2.2.2.2.1), (.int .u32 x21_.2.2.2.2.2.2.1), (.int .u32 x21_.2.2.2.2.2.2.2.1), (.int .u32 x21_.2.2.2.2.2.2.2.2.1), (.int .u32 x21_.2.2.2.2.2.2.2.2.2.1), (.int .u32 x21_.2.2.2.2.2.2.2.2.2.2.1)]⟩)])) fun (r22_ : ((Option Addr × Nat × Nat)) × (Int) × Unit) =>
 f175c5 X L x b0_ b12_ r22_
def f175c7 (X : Task → M Value) (L : LoopI) (x : ((Option Addr × Nat × Nat)) × Unit) (b0_ : Nat) (b7_ : Nat) (b12_ : Nat) : M (Value) :=
 M.bind (L (σ := (Int) × Unit) (ρ := (Unit) ⊕ (Unit)) (fun s13_ =>
 M.ite (decide (s13_.1 < 6))
 (M.callS (.one (.cell (.int .i64))) (X (.call 239 [(.int .i64 4), (.pointer (some (Addr.mk b7_ 0 none)))])) fun (r15_ : Int) =>
 M.guard (decide (0 ≤ s13_.1) && decide (s13_.1 < ((6 : Nat) : Int)))
 (M.store (((Addr.mk b12_ 0 none).add 4).add ((Int.toNat s13_.1) * 1)) [(.int .u32 (IntKind.u32.wrap r15_))]
 (M.pure (.inl ((IntKind.i64.wrap (s13_.1 + 1)), ())))))
 (M.pure (.inr (.inl (()))))) (0, ())) <| M.sum (fun (j18_ : Unit) =>
 M.callS (.one (.cell (.int .i64))) (X (.call 239 [(.int .i64 4), (.pointer (some (Addr.mk b7_ 0 none)))])) fun (r19_ : Int) =>
 M.store ((Addr.mk b12_ 0 none).add 10) [(.int .u32 (IntKind.u32.wrap r19_))]
 (f175c6 X L x b0_ b12_)) (fun _ => M.stuck)
def f175c8 (X : Task → M Value) (L : LoopI) (x : ((Option Addr × Nat × Nat)) × Unit) (b0_ : Nat) (b7_ : Nat) (r8_ : Int) (r9_ : Int) (r10_ : Int) : M (Value) :=
 M.callS (.one (.cell (.int .i64))) (X (.call 239 [(.int .i64 2), (.pointer (some (Addr.mk b7_ 0 none)))])) fun (r11_ : Int) =>
 M.new (.cells (Row.ofList [(.int .i64 0), (.int .i64 0), (.int .i64 0), (.int .i64 0), (.int .u32 0), (.int .u32 0), (.int .u32 0), (.int .u32 0), (.int .u32 0), (.int .u32 0), (.int .u32 0)]) 117 false (0, 0) false) fun b12_ =>
 M.store (Addr.mk b12_ 0 none) [(.int .i64 r8_), (.int .i64 r9_), (.int .i64 r11_), (.int .i64 r10_), (.int .u32 0), (.int .u32 0), (.int .u32 0), (.int .u32 0), (.int .u32 0), (.int .u32 0), (.int .u32 0)]
 (f175c7 X L x b0_ b7_ b12_)
def f175c9 (X : Task → M Value) (L : LoopI) (x : ((Option Addr × Nat × Nat)) × Unit) (b0_ : Nat) : M (Value) :=
 M.new (.cells (Row.ofList [(.slice none 0 0)]) 30 false (0, 0) false) fun b7_ =>
 M.store (Addr.mk b7_ 0 none) [(.slice x.1.1 x.1.2.1 x.1.2.2)]
 (M.callS (.one (.cell (.int .i64))) (X (.call 239 [(.int .i64 2), (.pointer (some (Addr.mk b7_ 0 none)))])) fun (r8_ : Int) =>
 M.callS (.one (.cell (.int .i64))) (X (.call 239 [(.int .i64 1), (.pointer (some (Addr.mk b7_ 0 none)))])) fun (r9_ : Int) =>
 M.callS (.one (.cell (.int .i64))) (X (.call 239 [(.int .i64 1), (.pointer (some (Addr.mk b7_ 0 none)))])) fun (r10_ : Int) =>
 f175c8 X L x b0_ b7_ r8_ r9_ r10_)
def f175c10 (X : Task → M Value) (L : LoopI) (x : ((Option Addr × Nat × Nat)) × Unit) (b0_ : Nat) (v2_ : Bool) : M (Value) :=
 M.ite v2_
 (M.store (Addr.mk b0_ 0 none) [(.int .i64 0), (.int .i64 0), (.int .i64 0), (.int .i64 0), (.int .u32 0), (.int .u32 0), (.int .u32 0), (.int .u32 0), (.int .u32 0), (.int .u32 0), (.int .u32 0)]
 (f175c0 X L b0_))
 (M.ite (decide (((x.1.2.1 : Nat) : Int) > 112))
 (M.store (Addr.mk b0_ 0 none) [(.int .i64 0), (.int .i64 0), (.int .i64 0), (.int .i64 0), (.int .u32 0), (.int .u32 0), (.int .u32 0), (.int .u32 0), (.int .u32 0), (.int .u32 0), (.int .u32 0)]
 (f175c1 X L b0_))
 (f175c9 X L x b0_))
def f175 (X : Task → M Value) (L : LoopI) (x : ((Option Addr × Nat × Nat)) × Unit) : M Value :=
 M.new (.cells (Row.ofList [(.int .i64 0), (.int .i64 0), (.int .i64 0), (.int .i64 0), (.int .u32 0), (.int .u32 0), (.int .u32 0), (.int .u32 0), (.int .u32 0), (.int .u32 0), (.int .u32 0)]) 117 false (0, 0) false) fun b0_ =>
 f175c10 X L x b0_ (decide (((x.1.2.1 : Nat) : Int) < 112))

theorem e175 (X : Task → M Value) (L : LoopI) (x : ((Option Addr × Nat × Nat)) × Unit) : evBody CC { call := X, loop := L } 175 (shsInj [(.cell .slice)] x) = f175 X L x := by kernel_rfl

/-- slices.Compare[[]rune,rune] -/
def f176c0 (X : Task → M Value) (L : LoopI) (x : ((Option Addr × Nat × Nat)) × ((Option Addr × Nat × Nat)) × Unit) (s1_ : (Int) × Unit) (a3_ : Addr) : M (((Int) × Unit) ⊕ ((Unit) ⊕ (((Int) × Unit) ⊕ (Unit)))) :=
 M.load (.cell (.int .i32)) 1 (a3_.add ((Int.toNat s1_.1) * 1)) fun (x4_ : Int) =>
 M.ite (decide (s1_.1 ≥ ((x.2.1.2.1 : Nat) : Int)))
 (M.pure (.inr (.inr (.inl (1, ())))))
 (M.guard (decide (0 ≤ s1_.1) && decide (s1_.1 < ((x.2.1.2.1 : Nat) : Int)))
 (M.deref x.2.1.1 fun a7_ =>
 M.load (.cell (.int .i32)) 1 (a7_.add ((Int.toNat s1_.1) * 1)) fun (x8_ : Int) =>
 M.callS (.one (.cell (.int .i64))) (X (.call 241 [(.int .i32 x4_), (.int .i32 x8_)])) fun (r9_ : Int) =>
 M.ite (!(r9_ == 0))
 (M.pure (.inr (.inr (.inl (r9_, ())))))
 (M.pure (.inl ((IntKind.i64.wrap (s1_.1 + 1)), ())))))
def f176c1 (X : Task → M Value) (L : LoopI) (x : ((Option Addr × Nat × Nat)) × ((Option Addr × Nat × Nat)) × Unit) (v0_ : Int) : M (Value) :=
 M.bind (L (σ := (Int) × Unit) (ρ := (Unit) ⊕ (((Int) × Unit) ⊕ (Unit))) (fun s1_ =>
 M.ite (decide (s1_.1 < v0_))
 (M.guard (decide (0 ≤ s1_.1) && decide (s1_.1 < ((x.1.2.1 : Nat) : Int)))
 (M.deref x.1.1 fun a3_ =>
 f176c0 X L x s1_ a3_))
 (M.pure (.inr (.inl (()))))) (0, ())) <| M.sum (fun (j12_ : Unit) =>
 M.ite (decide (((x.1.2.1 : Nat) : Int) < ((x.2.1.2.1 : Nat) : Int)))
 (M.pure (.int .i64 (-1)))
 (M.pure (.int .i64 0))) (M.sum (fun (j16_ : (Int) × Unit) =>
 M.pure (.int .i64 j16_.1)) (fun _ => M.stuck))
def f176 (X : Task → M Value) (L : LoopI) (x : ((Option Addr × Nat × Nat)) × ((Option Addr × Nat × Nat)) × Unit) : M Value :=
 f176c1 X L x ((x.1.2.1 : Nat) : Int)

theorem e176 (X : Task → M Value) (L : LoopI) (x : ((Option Addr × Nat × Nat)) × ((Option Addr × Nat × Nat)) × Unit) : evBody CC { call := X, loop := L } 176 (shsInj [(.cell .slice), (.cell .slice)] x) = f176 X L x := by kernel_rfl

/-- hayrick/names.Runes -/
def f177c0 (X : Task → M Value) (L : LoopI) (b0_ : Nat) : M (Value) :=
 M.bind (L (σ := ((Option Addr × Nat × Nat)) × Unit) (ρ := (((Option Addr × Nat × Nat)) × Unit) ⊕ (Unit)) (fun s1_ =>
 M.next b0_
 (M.pure (.inr (.inl (s1_.1, ())))) fun i2_ c3_ =>
 M.new (.cells (Row.ofList [(.int .i32 c3_)]) 21 false (0, 0) false) fun b4_ =>
 M.append 21 1 4 s1_.1.1 s1_.1.2.1 s1_.1.2.2 (.slice (some (Addr.mk b4_ 0 none)) 1 1) fun a5_ n6_ c7_ =>
 M.pure (.inl ((a5_, n6_, c7_), ()))) ((none, 0, 0), ())) <| M.sum (fun (j8_ : ((Option Addr × Nat × Nat)) × Unit) =>
 M.pure (.slice j8_.1.1 j8_.1.2.1 j8_.1.2.2)) (fun _ => M.stuck)
def f177 (X : Task → M Value) (L : LoopI) (x : (ByteArray) × Unit) : M Value :=
 M.new (.iter x.1 0) fun b0_ =>
 f177c0 X L b0_

theorem e177 (X : Task → M Value) (L : LoopI) (x : (ByteArray) × Unit) : evBody CC { call := X, loop := L } 177 (shsInj [(.cell .string)] x) = f177 X L x := by kernel_rfl

/-- strings.Compare -/
def f178 (X : Task → M Value) (L : LoopI) (x : (ByteArray) × (ByteArray) × Unit) : M Value :=
 M.callS (.one (.cell (.int .i64))) (X (.call 242 [(.string x.1), (.string x.2.1)])) fun (r0_ : Int) =>
 M.pure (.int .i64 r0_)

theorem e178 (X : Task → M Value) (L : LoopI) (x : (ByteArray) × (ByteArray) × Unit) : evBody CC { call := X, loop := L } 178 (shsInj [(.cell .string), (.cell .string)] x) = f178 X L x := by kernel_rfl

/-- hayrick/array.New -/
def f181c0 (X : Task → M Value) (L : LoopI) (x : (Int) × (Int) × Unit) (b2_ : Nat) (s3_ : (Int) × Unit) (x5_ : (Option Addr × Nat × Nat)) : M (((Int) × Unit) ⊕ ((Unit) ⊕ (Unit))) :=
 M.guard (decide (0 ≤ x.2.1) && decide (x.2.1 ≤ x.2.1) && decide ((64 : Int) * x.2.1 ≤ 2 ^ 48))
 (M.new (.cells (Row.rep (zc 321) (Int.toNat x.2.1)) 321 false (0, 0) false) fun b6_ =>
 M.new (.cells (Row.ofList [(.slice (some (Addr.mk b6_ 0 none)) (Int.toNat x.2.1) (Int.toNat x.2.1))]) 363 false (0, 0) false) fun b7_ =>
 M.append 363 1 24 x5_.1 x5_.2.1 x5_.2.2 (.slice (some (Addr.mk b7_ 0 none)) 1 1) fun a8_ n9_ c10_ =>
 M.store ((Addr.mk b2_ 0 none).add 1) [(.slice a8_ n9_ c10_)]
 (M.pure (.inl ((IntKind.i64.wrap (s3_.1 + 1)), ()))))
def f181c1 (X : Task → M Value) (L : LoopI) (x : (Int) × (Int) × Unit) : M (Value) :=
 M.new (.cells (Row.ofList [(.int .i64 x.2.1), (.slice none 0 0), (.slice none 0 0), (.int .i64 0), (.bool false)]) 319 false (0, 0) false) fun b2_ =>
 M.bind (L (σ := (Int) × Unit) (ρ := (Unit) ⊕ (Unit)) (fun s3_ =>
 M.ite (decide (s3_.1 < x.1))
 (M.load (.cell .slice) 1 ((Addr.mk b2_ 0 none).add 1) fun (x5_ : (Option Addr × Nat × Nat)) =>
 f181c0 X L x b2_ s3_ x5_)
 (M.pure (.inr (.inl (()))))) (0, ())) <| M.sum (fun (j12_ : Unit) =>
 M.pure (.tuple ⟨[(.pointer (some (Addr.mk b2_ 0 none))), (.int .i64 0)]⟩)) (fun _ => M.stuck)
def f181 (X : Task → M Value) (L : LoopI) (x : (Int) × (Int) × Unit) : M Value :=
 M.join (fun (j0_ : (Bool) × Unit) =>
 M.ite j0_.1
 (M.pure (.tuple ⟨[(.pointer none), (.int .i64 1)]⟩))
 (f181c1 X L x)) fun go1_ =>
 M.ite (decide (x.1 < 1))
 (go1_ (true, ()))
 (M.ite (decide (x.1 > 255))
 (go1_ (true, ()))
 (M.ite (decide (x.2.1 < 1))
 (go1_ (true, ()))
 (go1_ ((decide (x.2.1 > 4096)), ()))))

theorem e181 (X : Task → M Value) (L : LoopI) (x : (Int) × (Int) × Unit) : evBody CC { call := X, loop := L } 181 (shsInj [(.cell (.int .i64)), (.cell (.int .i64))] x) = f181 X L x := by kernel_rfl

/-- hayrick/hayrickref06.New -/
def f182c0 (X : Task → M Value) (L : LoopI) (b2_ : Nat) (s3_ : (Int) × Unit) (x5_ : (Option Addr × Nat × Nat)) (r6_ : (Option Addr × Nat × Nat) × Bool × Unit) : M (((Int) × Unit) ⊕ ((Unit) ⊕ (Unit))) :=
 M.load (.cell .slice) 1 ((Addr.mk b2_ 0 none).add 0) fun (x7_ : (Option Addr × Nat × Nat)) => cond (veqv (.slice x7_.1 x7_.2.1 x7_.2.2) (.slice x5_.1 x5_.2.1 x5_.2.2)) (M.new (.cells (Row.ofList [(.slice r6_.1.1 r6_.1.2.1 r6_.1.2.2), (.bool r6_.2.1)]) 334 false (0, 0) false) fun b8_ =>
 M.append 334 2 32 x5_.1 x5_.2.1 x5_.2.2 (.slice (some (Addr.mk b8_ 0 none)) 1 1) fun a9_ n10_ c11_ =>
 M.store ((Addr.mk b2_ 0 none).add 0) [(.slice a9_ n10_ c11_)]
 (M.pure (.inl ((IntKind.i64.wrap (s3_.1 + 1)), ())))) M.stuck
def f182c1 (X : Task → M Value) (L : LoopI) (x : (Int) × (Int) × Unit) (b2_ : Nat) : M (Value) :=
 M.bind (L (σ := (Int) × Unit) (ρ := (Unit) ⊕ (Unit)) (fun s3_ =>
 M.ite (decide (s3_.1 < x.1))
 (M.load (.cell .slice) 1 ((Addr.mk b2_ 0 none).add 0) fun (x5_ : (Option Addr × Nat × Nat)) =>
 M.callS (.one (.agg [.slice, .bool])) (X (.call 244 [(.int .i64 x.2.1)])) fun (r6_ : (Option Addr × Nat × Nat) × Bool × Unit) =>
 f182c0 X L b2_ s3_ x5_ r6_)
 (M.pure (.inr (.inl (()))))) (0, ())) <| M.sum (fun (j13_ : Unit) =>
 M.pure (.tuple ⟨[(.pointer (some (Addr.mk b2_ 0 none))), (.int .i64 0)]⟩)) (fun _ => M.stuck)
def f182 (X : Task → M Value) (L : LoopI) (x : (Int) × (Int) × Unit) : M Value :=
 M.join (fun (j0_ : (Bool) × Unit) =>
 M.ite j0_.1
 (M.pure (.tuple ⟨[(.pointer none), (.int .i64 1)]⟩))
 (M.new (.cells (Row.ofList [(.slice none 0 0), (.int .i64 x.2.1), (.slice none 0 0), (.int .i64 0), (.bool false)]) 330 false (0, 0) false) fun b2_ =>
 f182c1 X L x b2_)) fun go1_ =>
 M.ite (decide (x.1 < 1))
 (go1_ (true, ()))
 (M.ite (decide (x.1 > 255))
 (go1_ (true, ()))
 (M.ite (decide (x.2.1 < 1))
 (go1_ (true, ()))
 (go1_ ((decide (x.2.1 > 4096)), ()))))

theorem e182 (X : Task → M Value) (L : LoopI) (x : (Int) × (Int) × Unit) : evBody CC { call := X, loop := L } 182 (shsInj [(.cell (.int .i64)), (.cell (.int .i64))] x) = f182 X L x := by kernel_rfl

/-- hayrick/stripe.New -/
def f183c0 (X : Task → M Value) (L : LoopI) (x : (Option Addr) × (Int × Int × Int × Unit) × (Int) × Unit) (b0_ : Nat) (go4_ : ((Bool) × Unit) → M (Value)) (x16_ : Int) (r17_ : Int) : M (Value) :=
 M.load (.cell (.int .i64)) 1 ((Addr.mk b0_ 0 none).add 1) fun (x18_ : Int) => cond (veqv (.int .i64 x18_) (.int .i64 x16_)) (M.ite (!(r17_ == x16_))
 (go4_ (true, ()))
 (M.load (.cell (.int .i64)) 1 ((Addr.mk b0_ 0 none).add 2) fun (x20_ : Int) =>
 M.callS (.one (.cell (.int .i64))) (X (.call 247 [(.pointer x.1)])) fun (r22_ : Int) =>
 M.load (.cell (.int .i64)) 1 ((Addr.mk b0_ 0 none).add 2) fun (x23_ : Int) => cond (veqv (.int .i64 x23_) (.int .i64 x20_)) (go4_ ((decide ((IntKind.i64.wrap (r22_ - x.2.2.1)) < (IntKind.i64.wrap (x20_ * 8)))), ())) M.stuck)) M.stuck
def f183c1 (X : Task → M Value) (L : LoopI) (x : (Option Addr) × (Int × Int × Int × Unit) × (Int) × Unit) (b0_ : Nat) (go4_ : ((Bool) × Unit) → M (Value)) (v10_ : Bool) : M (Value) :=
 M.ite v10_
 (go4_ (true, ()))
 (M.load (.cell (.int .i64)) 1 ((Addr.mk b0_ 0 none).add 2) fun (x11_ : Int) =>
 M.ite (decide (x11_ < 1))
 (go4_ (true, ()))
 (M.load (.cell (.int .i64)) 1 ((Addr.mk b0_ 0 none).add 2) fun (x13_ : Int) =>
 M.ite (decide (x13_ > 128))
 (go4_ (true, ()))
 (M.ite (decide (x.2.2.1 < 0))
 (go4_ (true, ()))
 (M.load (.cell (.int .i64)) 1 ((Addr.mk b0_ 0 none).add 1) fun (x16_ : Int) =>
 M.callS (.one (.cell (.int .i64))) (X (.call 245 [(.pointer x.1)])) fun (r17_ : Int) =>
 f183c0 X L x b0_ go4_ x16_ r17_))))
def f183c2 (X : Task → M Value) (L : LoopI) (x : (Option Addr) × (Int × Int × Int × Unit) × (Int) × Unit) (b0_ : Nat) : M (Value) :=
 M.join (fun (j3_ : (Bool) × Unit) =>
 M.ite j3_.1
 (M.pure (.tuple ⟨[(.pointer none), (.int .i64 1)]⟩))
 (M.load (.agg [(.int .i64), (.int .i64), (.int .i64)]) 3 (Addr.mk b0_ 0 none) fun (x5_ : Int × Int × Int × Unit) =>
 M.new (.cells (Row.ofList [(.pointer x.1), (.int .i64 x5_.1), (.int .i64 x5_.2.1), (.int .i64 x5_.2.2.1), (.int .i64 x.2.2.1)]) 315 false (0, 0) false) fun b6_ =>
 M.pure (.tuple ⟨[(.pointer (some (Addr.mk b6_ 0 none))), (.int .i64 0)]⟩))) fun go4_ =>
 M.load (.cell (.int .i64)) 1 ((Addr.mk b0_ 0 none).add 0) fun (x7_ : Int) =>
 M.load (.cell (.int .i64)) 1 ((Addr.mk b0_ 0 none).add 1) fun (x8_ : Int) =>
 M.callS (.one (.cell .bool)) (X (.call 246 [(.int .i64 x7_), (.int .i64 x8_)])) fun (r9_ : Bool) =>
 f183c1 X L x b0_ go4_ (!r9_)
def f183 (X : Task → M Value) (L : LoopI) (x : (Option Addr) × (Int × Int × Int × Unit) × (Int) × Unit) : M Value :=
 M.new (.cells (Row.ofList [(.int .i64 x.2.1.1), (.int .i64 x.2.1.2.1), (.int .i64 x.2.1.2.2.1)]) 24 false (0, 0) false) fun b0_ =>
 M.callS (.one (.cell (.int .i64))) (X (.call 245 [(.pointer x.1)])) fun (r1_ : Int) =>
 M.ite (r1_ == 0)
 (M.pure (.tuple ⟨[(.pointer none), (.int .i64 2)]⟩))
 (f183c2 X L x b0_)

theorem e183 (X : Task → M Value) (L : LoopI) (x : (Option Addr) × (Int × Int × Int × Unit) × (Int) × Unit) : evBody CC { call := X, loop := L } 183 (shsInj [(.cell .ptr), (.agg [(.int .i64), (.int .i64), (.int .i64)]), (.cell (.int .i64))] x) = f183 X L x := by kernel_rfl

/-- hayrick/hayrickref08.New -/
def f184c0 (X : Task → M Value) (L : LoopI) (x : (Option Addr) × (Int × Int × Int × Unit) × (Int) × Unit) (b0_ : Nat) (go4_ : ((Bool) × Unit) → M (Value)) (v9_ : Int) : M (Value) :=
 M.load (.cell (.int .i64)) 1 ((Addr.mk b0_ 0 none).add 1) fun (x10_ : Int) =>
 M.ite (!(v9_ == x10_))
 (go4_ (true, ()))
 (M.deref x.1 fun a12_ =>
 M.load (.cell (.int .i64)) 1 (a12_.add 1) fun (x13_ : Int) =>
 M.ite (decide (x13_ < x.2.2.1))
 (go4_ (true, ()))
 (M.deref x.1 fun a15_ =>
 M.load (.cell (.int .i64)) 1 (a15_.add 1) fun (x16_ : Int) =>
 M.load (.cell (.int .i64)) 1 ((Addr.mk b0_ 0 none).add 2) fun (x18_ : Int) =>
 go4_ ((decide ((IntKind.i64.wrap (x16_ - x.2.2.1)) < (IntKind.i64.wrap (8 * x18_)))), ())))
def f184c1 (X : Task → M Value) (L : LoopI) (x : (Option Addr) × (Int × Int × Int × Unit) × (Int) × Unit) (b0_ : Nat) : M (Value) :=
 M.join (fun (j3_ : (Bool) × Unit) =>
 M.ite j3_.1
 (M.pure (.tuple ⟨[(.pointer none), (.int .i64 1)]⟩))
 (M.load (.agg [(.int .i64), (.int .i64), (.int .i64)]) 3 (Addr.mk b0_ 0 none) fun (x5_ : Int × Int × Int × Unit) =>
 M.new (.cells (Row.ofList [(.pointer x.1), (.int .i64 x5_.1), (.int .i64 x5_.2.1), (.int .i64 x5_.2.2.1), (.int .i64 x.2.2.1)]) 239 false (0, 0) false) fun b6_ =>
 M.pure (.tuple ⟨[(.pointer (some (Addr.mk b6_ 0 none))), (.int .i64 0)]⟩))) fun go4_ =>
 M.deref x.1 fun a7_ =>
 M.load (.cell .slice) 1 (a7_.add 0) fun (x8_ : (Option Addr × Nat × Nat)) =>
 f184c0 X L x b0_ go4_ ((x8_.2.1 : Nat) : Int)
def f184c2 (X : Task → M Value) (L : LoopI) (x : (Option Addr) × (Int × Int × Int × Unit) × (Int) × Unit) (b0_ : Nat) (go2_ : ((Bool) × Unit) → M (Value)) : M (Value) :=
 M.load (.cell (.int .i64)) 1 ((Addr.mk b0_ 0 none).add 0) fun (x21_ : Int) =>
 M.load (.cell (.int .i64)) 1 ((Addr.mk b0_ 0 none).add 1) fun (x22_ : Int) =>
 M.callS (.one (.cell .bool)) (X (.call 248 [(.int .i64 x21_), (.int .i64 x22_)])) fun (r23_ : Bool) =>
 M.ite (!r23_)
 (go2_ (true, ()))
 (M.load (.cell (.int .i64)) 1 ((Addr.mk b0_ 0 none).add 2) fun (x25_ : Int) =>
 M.ite (decide (x25_ < 1))
 (go2_ (true, ()))
 (M.load (.cell (.int .i64)) 1 ((Addr.mk b0_ 0 none).add 2) fun (x27_ : Int) =>
 M.ite (decide (x27_ > 128))
 (go2_ (true, ()))
 (go2_ ((decide (x.2.2.1 < 0)), ()))))
def f184 (X : Task → M Value) (L : LoopI) (x : (Option Addr) × (Int × Int × Int × Unit) × (Int) × Unit) : M Value :=
 M.new (.cells (Row.ofList [(.int .i64 x.2.1.1), (.int .i64 x.2.1.2.1), (.int .i64 x.2.1.2.2.1)]) 24 false (0, 0) false) fun b0_ =>
 M.join (fun (j1_ : (Bool) × Unit) =>
 M.ite j1_.1
 (M.pure (.tuple ⟨[(.pointer none), (.int .i64 1)]⟩))
 (f184c1 X L x b0_)) fun go2_ =>
 f184c2 X L x b0_ go2_

theorem e184 (X : Task → M Value) (L : LoopI) (x : (Option Addr) × (Int × Int × Int × Unit) × (Int) × Unit) : evBody CC { call := X, loop := L } 184 (shsInj [(.cell .ptr), (.agg [(.int .i64), (.int .i64), (.int .i64)]), (.cell (.int .i64))] x) = f184 X L x := by kernel_rfl

/-- (*hayrick/stripe.Stripes).Geometry -/
def f185c0 (X : Task → M Value) (L : LoopI) (x : (Option Addr) × Unit) (b0_ : Nat) (q1_ : Bool) : M (Value) :=
 M.ite q1_
 (M.store (Addr.mk b0_ 0 none) [(.int .i64 0), (.int .i64 0), (.int .i64 0)]
 (M.load (.agg [(.int .i64), (.int .i64), (.int .i64)]) 3 (Addr.mk b0_ 0 none) fun (x2_ : Int × Int × Int × Unit) =>
 M.pure (.agg ⟨[(.int .i64 x2_.1), (.int .i64 x2_.2.1), (.int .i64 x2_.2.2.1)]⟩)))
 (M.deref x.1 fun a3_ =>
 M.load (.agg [(.int .i64), (.int .i64), (.int .i64)]) 3 (a3_.add 1) fun (x4_ : Int × Int × Int × Unit) =>
 M.store (Addr.mk b0_ 0 none) [(.int .i64 x4_.1), (.int .i64 x4_.2.1), (.int .i64 x4_.2.2.1)]
 (M.load (.agg [(.int .i64), (.int .i64), (.int .i64)]) 3 (Addr.mk b0_ 0 none) fun (x5_ : Int × Int × Int × Unit) =>
 M.pure (.agg ⟨[(.int .i64 x5_.1), (.int .i64 x5_.2.1), (.int .i64 x5_.2.2.1)]⟩)))
def f185 (X : Task → M Value) (L : LoopI) (x : (Option Addr) × Unit) : M Value :=
 M.new (.cells (Row.ofList [(.int .i64 0), (.int .i64 0), (.int .i64 0)]) 24 false (0, 0) false) fun b0_ =>
 M.eqPtr x.1 none fun (q1_ : Bool) =>
 f185c0 X L x b0_ q1_

theorem e185 (X : Task → M Value) (L : LoopI) (x : (Option Addr) × Unit) : evBody CC { call := X, loop := L } 185 (shsInj [(.cell .ptr)] x) = f185 X L x := by kernel_rfl

/-- hayrick/logs.slots -/
def f186c0 (X : Task → M Value) (L : LoopI) (x : ((Option Addr × Nat × Nat)) × (Int) × (Int) × Unit) (b0_ : Nat) (s2_ : (Int) × Unit) (x5_ : Int) : M (((Int) × Unit) ⊕ ((Unit) ⊕ (((Bool) × Unit) ⊕ (Unit)))) :=
 M.join (fun (j6_ : (Bool) × Unit) =>
 M.ite j6_.1
 (M.pure (.inr (.inr (.inl (false, ())))))
 (M.guard (decide (0 ≤ x5_) && decide (x5_ < (((Int.toNat x.2.1) : Nat) : Int)))
 (M.store ((Addr.mk b0_ 0 none).add ((Int.toNat x5_) * 1)) [(.bool true)]
 (M.pure (.inl ((IntKind.i64.wrap (s2_.1 + 1)), ())))))) fun go7_ =>
 M.ite (decide (x5_ < 0))
 (go7_ (true, ()))
 (M.ite (decide (x5_ ≥ x.2.1))
 (go7_ (true, ()))
 (M.guard (decide (0 ≤ x5_) && decide (x5_ < (((Int.toNat x.2.1) : Nat) : Int)))
 (M.load (.cell .bool) 1 ((Addr.mk b0_ 0 none).add ((Int.toNat x5_) * 1)) fun (x11_ : Bool) =>
 M.ite x11_
 (go7_ (true, ()))
 (go7_ ((x5_ == x.2.2.1), ())))))
def f186c1 (X : Task → M Value) (L : LoopI) (x : ((Option Addr × Nat × Nat)) × (Int) × (Int) × Unit) (b0_ : Nat) : M (Value) :=
 M.bind (L (σ := (Int) × Unit) (ρ := (Unit) ⊕ (((Bool) × Unit) ⊕ (Unit))) (fun s2_ =>
 M.ite (decide (s2_.1 < ((x.1.2.1 : Nat) : Int)))
 (M.guard (decide (0 ≤ s2_.1) && decide (s2_.1 < ((x.1.2.1 : Nat) : Int)))
 (M.deref x.1.1 fun a4_ =>
 M.load (.cell (.int .i64)) 1 (a4_.add ((Int.toNat s2_.1) * 1)) fun (x5_ : Int) =>
 f186c0 X L x b0_ s2_ x5_))
 (M.pure (.inr (.inl (()))))) (0, ())) <| M.sum (fun (j13_ : Unit) =>
 M.pure (.bool true)) (M.sum (fun (j14_ : (Bool) × Unit) =>
 M.pure (.bool j14_.1)) (fun _ => M.stuck))
def f186 (X : Task → M Value) (L : LoopI) (x : ((Option Addr × Nat × Nat)) × (Int) × (Int) × Unit) : M Value :=
 M.guard (decide (0 ≤ x.2.1) && decide (x.2.1 ≤ x.2.1) && decide ((1 : Int) * x.2.1 ≤ 2 ^ 48))
 (M.new (.cells (Row.rep [(.bool false)] (Int.toNat x.2.1)) 4 false (0, 0) false) fun b0_ =>
 f186c1 X L x b0_)

theorem e186 (X : Task → M Value) (L : LoopI) (x : ((Option Addr × Nat × Nat)) × (Int) × (Int) × Unit) : evBody CC { call := X, loop := L } 186 (shsInj [(.cell .slice), (.cell (.int .i64)), (.cell (.int .i64))] x) = f186 X L x := by kernel_rfl

/-- slices.Clone[[]uint64,uint64] -/
def f187 (X : Task → M Value) (L : LoopI) (x : ((Option Addr × Nat × Nat)) × Unit) : M Value :=
 M.ite x.1.1.isNone
 (M.pure (.slice none 0 0))
 (M.new (.cells (Row.ofList []) 206 false (0, 0) false) fun b0_ =>
 M.append 206 1 8 (some (Addr.mk b0_ 0 none)) 0 0 (.slice x.1.1 x.1.2.1 x.1.2.2) fun a1_ n2_ c3_ =>
 M.pure (.slice a1_ n2_ c3_))

theorem e187 (X : Task → M Value) (L : LoopI) (x : ((Option Addr × Nat × Nat)) × Unit) : evBody CC { call := X, loop := L } 187 (shsInj [(.cell .slice)] x) = f187 X L x := by kernel_rfl

/-- hayrick/logs.rising -/
def f188 (X : Task → M Value) (L : LoopI) (x : ((Option Addr × Nat × Nat)) × Unit) : M Value :=
 M.callS (.one (.cell .slice)) (X (.call 249 [(.slice x.1.1 x.1.2.1 x.1.2.2)])) fun (r0_ : (Option Addr × Nat × Nat)) =>
 M.callS (.tuple []) (X (.call 250 [(.slice r0_.1 r0_.2.1 r0_.2.2)])) fun (r1_ : Unit) =>
 M.pure (.slice r0_.1 r0_.2.1 r0_.2.2)

theorem e188 (X : Task → M Value) (L : LoopI) (x : ((Option Addr × Nat × Nat)) × Unit) : evBody CC { call := X, loop := L } 188 (shsInj [(.cell .slice)] x) = f188 X L x := by kernel_rfl

/-- hayrick/hayrickref17.slots -/
def f189c0 (X : Task → M Value) (L : LoopI) (x : ((Option Addr × Nat × Nat)) × (Int) × (Int) × Unit) (b0_ : Nat) (s1_ : (Int) × Unit) (x7_ : Int) : M (((Int) × Unit) ⊕ ((Unit) ⊕ ((((Option Addr × Nat × Nat)) × (Bool) × Unit) ⊕ (Unit)))) :=
 M.load (.cell .bool) 1 ((Addr.mk b0_ 0 none).add ((Int.toNat x7_) * 1)) fun (x8_ : Bool) =>
 M.ite x8_
 (M.pure (.inr (.inr (.inl ((none, 0, 0), false, ())))))
 (M.guard (decide (0 ≤ s1_.1) && decide (s1_.1 < ((x.1.2.1 : Nat) : Int)))
 (M.deref x.1.1 fun a9_ =>
 M.load (.cell (.int .i64)) 1 (a9_.add ((Int.toNat s1_.1) * 1)) fun (x10_ : Int) =>
 M.guard (decide (0 ≤ x10_) && decide (x10_ < (((Int.toNat x.2.1) : Nat) : Int)))
 (M.store ((Addr.mk b0_ 0 none).add ((Int.toNat x10_) * 1)) [(.bool true)]
 (M.pure (.inl ((IntKind.i64.wrap (s1_.1 + 1)), ()))))))
def f189c1 (X : Task → M Value) (L : LoopI) (x : ((Option Addr × Nat × Nat)) × (Int) × (Int) × Unit) (s1_ : (Int) × Unit) (go5_ : ((Bool) × Unit) → M (((Int) × Unit) ⊕ ((Unit) ⊕ ((((Option Addr × Nat × Nat)) × (Bool) × Unit) ⊕ (Unit))))) (a12_ : Addr) : M (((Int) × Unit) ⊕ ((Unit) ⊕ ((((Option Addr × Nat × Nat)) × (Bool) × Unit) ⊕ (Unit)))) :=
 M.load (.cell (.int .i64)) 1 (a12_.add ((Int.toNat s1_.1) * 1)) fun (x13_ : Int) =>
 M.ite (decide (x13_ < 0))
 (go5_ (true, ()))
 (M.guard (decide (0 ≤ s1_.1) && decide (s1_.1 < ((x.1.2.1 : Nat) : Int)))
 (M.deref x.1.1 fun a15_ =>
 M.load (.cell (.int .i64)) 1 (a15_.add ((Int.toNat s1_.1) * 1)) fun (x16_ : Int) =>
 M.ite (decide (x16_ ≥ x.2.1))
 (go5_ (true, ()))
 (M.guard (decide (0 ≤ s1_.1) && decide (s1_.1 < ((x.1.2.1 : Nat) : Int)))
 (M.deref x.1.1 fun a18_ =>
 M.load (.cell (.int .i64)) 1 (a18_.add ((Int.toNat s1_.1) * 1)) fun (x19_ : Int) =>
 go5_ ((x19_ == x.2.2.1), ())))))
def f189c2 (X : Task → M Value) (L : LoopI) (x : ((Option Addr × Nat × Nat)) × (Int) × (Int) × Unit) (b0_ : Nat) (s1_ : (Int) × Unit) : M (((Int) × Unit) ⊕ ((Unit) ⊕ ((((Option Addr × Nat × Nat)) × (Bool) × Unit) ⊕ (Unit)))) :=
 M.join (fun (j4_ : (Bool) × Unit) =>
 M.ite j4_.1
 (M.pure (.inr (.inr (.inl ((none, 0, 0), false, ())))))
 (M.guard (decide (0 ≤ s1_.1) && decide (s1_.1 < ((x.1.2.1 : Nat) : Int)))
 (M.deref x.1.1 fun a6_ =>
 M.load (.cell (.int .i64)) 1 (a6_.add ((Int.toNat s1_.1) * 1)) fun (x7_ : Int) =>
 M.guard (decide (0 ≤ x7_) && decide (x7_ < (((Int.toNat x.2.1) : Nat) : Int)))
 (f189c0 X L x b0_ s1_ x7_)))) fun go5_ =>
 M.guard (decide (0 ≤ s1_.1) && decide (s1_.1 < ((x.1.2.1 : Nat) : Int)))
 (M.deref x.1.1 fun a12_ =>
 f189c1 X L x s1_ go5_ a12_)
def f189c3 (X : Task → M Value) (L : LoopI) (x : ((Option Addr × Nat × Nat)) × (Int) × (Int) × Unit) (b0_ : Nat) : M (Value) :=
 M.bind (L (σ := (Int) × Unit) (ρ := (Unit) ⊕ ((((Option Addr × Nat × Nat)) × (Bool) × Unit) ⊕ (Unit))) (fun s1_ =>
 M.ite (decide (s1_.1 < ((x.1.2.1 : Nat) : Int)))
 (f189c2 X L x b0_ s1_)
 (M.pure (.inr (.inl (()))))) (0, ())) <| M.sum (fun (j21_ : Unit) =>
 M.pure (.tuple ⟨[(.slice (some (Addr.mk b0_ 0 none)) (Int.toNat x.2.1) (Int.toNat x.2.1)), (.bool true)]⟩)) (M.sum (fun (j22_ : ((Option Addr × Nat × Nat)) × (Bool) × Unit) =>
 M.pure (.tuple ⟨[(.slice j22_.1.1 j22_.1.2.1 j22_.1.2.2), (.bool j22_.2.1)]⟩)) (fun _ => M.stuck))
def f189 (X : Task → M Value) (L : LoopI) (x : ((Option Addr × Nat × Nat)) × (Int) × (Int) × Unit) : M Value :=
 M.guard (decide (0 ≤ x.2.1) && decide (x.2.1 ≤ x.2.1) && decide ((1 : Int) * x.2.1 ≤ 2 ^ 48))
 (M.new (.cells (Row.rep [(.bool false)] (Int.toNat x.2.1)) 4 false (0, 0) false) fun b0_ =>
 f189c3 X L x b0_)

theorem e189 (X : Task → M Value) (L : LoopI) (x : ((Option Addr × Nat × Nat)) × (Int) × (Int) × Unit) : evBody CC { call := X, loop := L } 189 (shsInj [(.cell .slice), (.cell (.int .i64)), (.cell (.int .i64))] x) = f189 X L x := by kernel_rfl

/-- hayrick/hayrickref10.Valid -/
def f190c0 (X : Task → M Value) (L : LoopI) (x : (ByteArray) × Unit) (s2_ : (Int) × Unit) : M (((Int) × Unit) ⊕ ((Unit) ⊕ (((Bool) × Unit) ⊕ (Unit)))) :=
 M.join (fun (j5_ : (Bool) × Unit) =>
 M.ite j5_.1
 (M.pure (.inr (.inr (.inl (false, ())))))
 (M.pure (.inl ((IntKind.i64.wrap (s2_.1 + 1)), ())))) fun go6_ =>
 M.guard (decide (0 ≤ s2_.1) && decide (s2_.1 < (x.1.size : Int)))
 (M.ite ((byteAt x.1 s2_.1) == 47)
 (go6_ (true, ()))
 (M.guard (decide (0 ≤ s2_.1) && decide (s2_.1 < (x.1.size : Int)))
 (M.ite (decide ((byteAt x.1 s2_.1) < 32))
 (go6_ (true, ()))
 (M.guard (decide (0 ≤ s2_.1) && decide (s2_.1 < (x.1.size : Int)))
 (go6_ (((byteAt x.1 s2_.1) == 127), ()))))))
def f190c1 (X : Task → M Value) (L : LoopI) (x : (ByteArray) × Unit) : M (Value) :=
 M.join (fun (j0_ : (Bool) × Unit) =>
 M.ite j0_.1
 (M.pure (.bool false))
 (M.bind (L (σ := (Int) × Unit) (ρ := (Unit) ⊕ (((Bool) × Unit) ⊕ (Unit))) (fun s2_ =>
 M.ite (decide (s2_.1 < ((x.1.size : Nat) : Int)))
 (f190c0 X L x s2_)
 (M.pure (.inr (.inl (()))))) (0, ())) <| M.sum (fun (j14_ : Unit) =>
 M.pure (.bool true)) (M.sum (fun (j15_ : (Bool) × Unit) =>
 M.pure (.bool j15_.1)) (fun _ => M.stuck)))) fun go1_ =>
 M.ite (((x.1.size : Nat) : Int) == 0)
 (go1_ (true, ()))
 (M.ite (decide (((x.1.size : Nat) : Int) > 24))
 (go1_ (true, ()))
 (M.callS (.one (.cell .bool)) (X (.call 251 [(.string x.1)])) fun (r20_ : Bool) =>
 M.ite (!r20_)
 (go1_ (true, ()))
 (M.ite (seq x.1 st21)
 (go1_ (true, ()))
 (go1_ ((seq x.1 st22), ())))))
def f190 (X : Task → M Value) (L : LoopI) (x : (ByteArray) × Unit) : M Value :=
 f190c1 X L x

theorem e190 (X : Task → M Value) (L : LoopI) (x : (ByteArray) × Unit) : evBody CC { call := X, loop := L } 190 (shsInj [(.cell .string)] x) = f190 X L x := by kernel_rfl

/-- (*hayrick/logs.Log).Append -/
def f196c0 (X : Task → M Value) (L : LoopI) (b0_ : Nat) (b1_ : Nat) (b2_ : Nat) (b3_ : Nat) (x4_ : Option Addr) : M (Value) :=
 M.callS (.one (.cell (.int .i64))) (X (.call 135 [(.pointer x4_), (.func (.func 257) ⟨[]⟩ ⟨[(.pointer (some (Addr.mk b1_ 0 none))), (.pointer (some (Addr.mk b2_ 0 none))), (.pointer (some (Addr.mk b0_ 0 none))), (.pointer (some (Addr.mk b3_ 0 none)))]⟩)])) fun (r5_ : Int) =>
 M.ite (!(r5_ == 0))
 (M.store (Addr.mk b3_ 0 none) [(.int .u32 0)]
 (M.load (.cell (.int .u32)) 1 (Addr.mk b3_ 0 none) fun (x7_ : Int) =>
 M.pure (.tuple ⟨[(.int .u32 x7_), (.int .i64 r5_)]⟩)))
 (M.load (.cell (.int .u32)) 1 (Addr.mk b3_ 0 none) fun (x8_ : Int) =>
 M.store (Addr.mk b3_ 0 none) [(.int .u32 x8_)]
 (M.load (.cell (.int .u32)) 1 (Addr.mk b3_ 0 none) fun (x9_ : Int) =>
 M.pure (.tuple ⟨[(.int .u32 x9_), (.int .i64 0)]⟩)))
def f196c1 (X : Task → M Value) (L : LoopI) (x : (Option Addr) × (Int × Bool × Int × Int × Unit) × ((Option Addr × Nat × Nat)) × Unit) : M (Value) :=
 M.new (.cells (Row.ofList [(.pointer x.1)]) 110 false (0, 0) false) fun b0_ =>
 M.new (.cells (Row.ofList [(.int .i64 x.2.1.1), (.bool x.2.1.2.1), (.int .i64 x.2.1.2.2.1), (.int .i64 x.2.1.2.2.2.1)]) 226 false (0, 0) false) fun b1_ =>
 M.new (.cells (Row.ofList [(.slice x.2.2.1.1 x.2.2.1.2.1 x.2.2.1.2.2)]) 30 false (0, 0) false) fun b2_ =>
 M.new (.cells (Row.ofList [(.int .u32 0)]) 86 false (0, 0) false) fun b3_ =>
 M.load (.cell .ptr) 1 (Addr.mk b0_ 0 none) fun (x4_ : Option Addr) =>
 f196c0 X L b0_ b1_ b2_ b3_ x4_
def f196 (X : Task → M Value) (L : LoopI) (x : (Option Addr) × (Int × Bool × Int × Int × Unit) × ((Option Addr × Nat × Nat)) × Unit) : M Value :=
 f196c1 X L x

theorem e196 (X : Task → M Value) (L : LoopI) (x : (Option Addr) × (Int × Bool × Int × Int × Unit) × ((Option Addr × Nat × Nat)) × Unit) : evBody CC { call := X, loop := L } 196 (shsInj [(.cell .ptr), (.agg [(.int .i64), .bool, (.int .i64), (.int .i64)]), (.cell .slice)] x) = f196 X L x := by kernel_rfl

/-- hayrick/hayrickref14.May -/
def f197c0 (X : Task → M Value) (L : LoopI) (b0_ : Nat) (v4_ : Bool) : M (Value) :=
 M.ite v4_
 (M.join (fun (j5_ : (Bool) × Unit) =>
 M.pure (.bool j5_.1)) fun go6_ =>
 M.load (.cell (.int .i64)) 1 ((Addr.mk b0_ 0 none).add 3) fun (x7_ : Int) =>
 M.ite (decide (x7_ ≥ 0))
 (M.load (.cell (.int .i64)) 1 ((Addr.mk b0_ 0 none).add 3) fun (x9_ : Int) =>
 go6_ ((decide (x9_ ≤ 33)), ()))
 (go6_ (false, ())))
 (M.join (fun (j11_ : (Bool) × Unit) =>
 M.pure (.bool j11_.1)) fun go12_ =>
 M.load (.cell (.int .i64)) 1 ((Addr.mk b0_ 0 none).add 0) fun (x13_ : Int) =>
 M.ite (decide (x13_ ≥ 2))
 (M.load (.cell (.int .i64)) 1 ((Addr.mk b0_ 0 none).add 0) fun (x15_ : Int) =>
 M.ite (decide (x15_ ≤ 4))
 (M.load (.cell (.int .i64)) 1 ((Addr.mk b0_ 0 none).add 3) fun (x17_ : Int) =>
 go12_ ((x17_ == 0), ()))
 (go12_ (false, ())))
 (go12_ (false, ())))
def f197c1 (X : Task → M Value) (L : LoopI) (x : (Int × Bool × Int × Int × Unit) × Unit) : M (Value) :=
 M.new (.cells (Row.ofList [(.int .i64 x.1.1), (.bool x.1.2.1), (.int .i64 x.1.2.2.1), (.int .i64 x.1.2.2.2.1)]) 226 false (0, 0) false) fun b0_ =>
 M.join (fun (j1_ : (Bool) × Unit) =>
 M.ite j1_.1
 (M.pure (.bool false))
 (M.load (.cell (.int .i64)) 1 ((Addr.mk b0_ 0 none).add 0) fun (x3_ : Int) =>
 f197c0 X L b0_ (x3_ == 1))) fun go2_ =>
 M.load (.cell (.int .i64)) 1 ((Addr.mk b0_ 0 none).add 2) fun (x19_ : Int) =>
 M.ite (decide (x19_ < 1))
 (go2_ (true, ()))
 (M.load (.cell (.int .i64)) 1 ((Addr.mk b0_ 0 none).add 2) fun (x21_ : Int) =>
 go2_ ((decide (x21_ > 64)), ()))
def f197 (X : Task → M Value) (L : LoopI) (x : (Int × Bool × Int × Int × Unit) × Unit) : M Value :=
 f197c1 X L x

theorem e197 (X : Task → M Value) (L : LoopI) (x : (Int × Bool × Int × Int × Unit) × Unit) : evBody CC { call := X, loop := L } 197 (shsInj [(.agg [(.int .i64), .bool, (.int .i64), (.int .i64)])] x) = f197 X L x := by kernel_rfl

/-- hayrick/hayrickref14.Address -/
def f198c0 (X : Task → M Value) (L : LoopI) (x : (Int) × (Int) × (Int) × Unit) : M (Value) :=
 M.join (fun (j0_ : (Bool) × Unit) =>
 M.ite j0_.1
 (M.pure (.tuple ⟨[(.int .u32 0), (.int .i64 1)]⟩))
 (M.callS (.one (.cell (.int .i64))) (X (.call 255 [(.int .i64 x.1)])) fun (r4_ : Int) =>
 M.pure (.tuple ⟨[(.int .u32 (IntKind.u32.wrap (IntKind.i64.wrap ((IntKind.i64.wrap ((IntKind.i64.wrap ((IntKind.i64.wrap ((IntKind.i64.wrap (x.2.1 * 4)) * x.1)) + r4_)) + x.2.2.1)) + 1)))), (.int .i64 0)]⟩))) fun go1_ =>
 M.ite (decide (x.1 < 1))
 (go1_ (true, ()))
 (M.ite (decide (x.1 > 254))
 (go1_ (true, ()))
 (M.ite (decide (x.2.1 < 0))
 (go1_ (true, ()))
 (M.ite (decide (x.2.1 > 127))
 (go1_ (true, ()))
 (M.ite (decide (x.2.2.1 < 0))
 (go1_ (true, ()))
 (M.callS (.one (.cell (.int .i64))) (X (.call 200 [(.int .i64 x.1)])) fun (r14_ : Int) =>
 go1_ ((decide (x.2.2.1 ≥ r14_)), ()))))))
def f198 (X : Task → M Value) (L : LoopI) (x : (Int) × (Int) × (Int) × Unit) : M Value :=
 f198c0 X L x

theorem e198 (X : Task → M Value) (L : LoopI) (x : (Int) × (Int) × (Int) × Unit) : evBody CC { call := X, loop := L } 198 (shsInj [(.cell (.int .i64)), (.cell (.int .i64)), (.cell (.int .i64))] x) = f198 X L x := by kernel_rfl

/-- hayrick/hayrickref17.own -/
def f199 (X : Task → M Value) (L : LoopI) (x : ((Option Addr × Nat × Nat)) × Unit) : M Value :=
 M.append 5 1 1 none 0 0 (.slice x.1.1 x.1.2.1 x.1.2.2) fun a0_ n1_ c2_ =>
 M.pure (.slice a0_ n1_ c2_)

theorem e199 (X : Task → M Value) (L : LoopI) (x : ((Option Addr × Nat × Nat)) × Unit) : evBody CC { call := X, loop := L } 199 (shsInj [(.cell .slice)] x) = f199 X L x := by kernel_rfl

/-- hayrick/hayrickref14.Cap -/
def f200 (X : Task → M Value) (L : LoopI) (x : (Int) × Unit) : M Value :=
 M.join (fun (j0_ : (Bool) × Unit) =>
 M.ite j0_.1
 (M.pure (.int .i64 0))
 (M.callS (.one (.cell (.int .i64))) (X (.call 255 [(.int .i64 x.1)])) fun (r3_ : Int) =>
 M.pure (.int .i64 (IntKind.i64.wrap ((IntKind.i64.wrap (4 * x.1)) - r3_))))) fun go1_ =>
 M.ite (decide (x.1 < 1))
 (go1_ (true, ()))
 (go1_ ((decide (x.1 > 254)), ()))

theorem e200 (X : Task → M Value) (L : LoopI) (x : (Int) × Unit) : evBody CC { call := X, loop := L } 200 (shsInj [(.cell (.int .i64))] x) = f200 X L x := by kernel_rfl

/-- (*hayrick/logs.Log).k -/
def f201 (X : Task → M Value) (L : LoopI) (x : (Option Addr) × Unit) : M Value :=
 M.deref x.1 fun a0_ =>
 M.load (.cell .ptr) 1 (a0_.add 0) fun (x1_ : Option Addr) =>
 M.callS (.one (.agg [(.int .i64), (.int .i64), (.int .i64)])) (X (.call 185 [(.pointer x1_)])) fun (r2_ : Int × Int × Int × Unit) =>
 M.pure (.int .i64 r2_.1)

theorem e201 (X : Task → M Value) (L : LoopI) (x : (Option Addr) × Unit) : evBody CC { call := X, loop := L } 201 (shsInj [(.cell .ptr)] x) = f201 X L x := by kernel_rfl

end
end Go.Proofs.YtcfnndmehnppnaaGreatDoor.pathKnown
