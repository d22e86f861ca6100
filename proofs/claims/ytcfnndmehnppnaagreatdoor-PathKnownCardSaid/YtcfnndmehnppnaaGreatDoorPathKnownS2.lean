/-
  What the functions that PathKnown reaches come to, part 2: each text, and that the reading gives it.
-/
import Derived.Test.YtcfnndmehnppnaaGreatDoorPathKnownH
import Derived.KernelRfl
set_option linter.unusedVariables false
namespace Go.Proofs.YtcfnndmehnppnaaGreatDoor.pathKnown
open Go Go.Eng
noncomputable section
/-- hayrick/stamp.Take -/
def f359c0 (X : Task → M Value) (L : LoopI) (x : ((Option Addr × Nat × Nat)) × Unit) (v4_ : Nat) (v5_ : Int) : M (Value) :=
 M.bind (L (σ := (Int) × (Int) × Unit) (ρ := ((Int) × Unit) ⊕ (Unit)) (fun s6_ =>
 M.ite (decide (s6_.2.1 < v5_))
 (M.guard (decide (0 ≤ s6_.2.1) && decide (s6_.2.1 < (((v4_ - 0) : Nat) : Int)))
 (M.deref (x.1.1.map (·.add (0 * 1))) fun a8_ =>
 M.load (.cell (.int .u8)) 1 (a8_.add ((Int.toNat s6_.2.1) * 1)) fun (x9_ : Int) =>
 M.guard (decide (0 ≤ 8))
 (M.pure (.inl ((bitsV .or .u64 (IntKind.u64.wrap (s6_.1 * 2 ^ (min (Int.toNat 8) IntKind.u64.bits))) (IntKind.u64.wrap x9_)), (IntKind.i64.wrap (s6_.2.1 + 1)), ())))))
 (M.pure (.inr (.inl (s6_.1, ()))))) (0, 0, ())) <| M.sum (fun (j14_ : (Int) × Unit) =>
 M.guard (decide (0 ≤ 8) && decide (8 ≤ ((x.1.2.1 : Nat) : Int)))
 (let v15_ : Nat := (Int.toNat 8)
 M.callS (.one (.cell .slice)) (X (.call 236 [(.slice (x.1.1.map (·.add (v15_ * 1))) (x.1.2.1 - v15_) (x.1.2.2 - v15_))])) fun (r16_ : (Option Addr × Nat × Nat)) =>
 M.pure (.tuple ⟨[(.int .u64 j14_.1), (.slice r16_.1 r16_.2.1 r16_.2.2), (.int .i64 0)]⟩))) (fun _ => M.stuck)
def f359 (X : Task → M Value) (L : LoopI) (x : ((Option Addr × Nat × Nat)) × Unit) : M Value :=
 M.ite (decide (((x.1.2.1 : Nat) : Int) < 64))
 (M.pure (.tuple ⟨[(.int .u64 0), (.slice none 0 0), (.int .i64 4)]⟩))
 (M.ite (decide (((x.1.2.1 : Nat) : Int) > 64))
 (M.pure (.tuple ⟨[(.int .u64 0), (.slice none 0 0), (.int .i64 3)]⟩))
 (M.guard (decide (0 ≤ 8) && decide (8 ≤ ((x.1.2.2 : Nat) : Int)))
 (let v4_ : Nat := (Int.toNat 8)
 f359c0 X L x v4_ (((v4_ - 0) : Nat) : Int))))

theorem e359 (X : Task → M Value) (L : LoopI) (x : ((Option Addr × Nat × Nat)) × Unit) : evBody CC { call := X, loop := L } 359 (shsInj [(.cell .slice)] x) = f359 X L x := by kernel_rfl

/-- hayrick/chunk.Take$1 -/
def f360c0 (X : Task → M Value) (L : LoopI) (x : ((Option Addr × Nat × Nat)) × (Option Addr) × (Option Addr) × Unit) (r0_ : (Int) × ((Option Addr × Nat × Nat)) × (Int) × Unit) : M (Value) :=
 M.deref x.2.1 fun a1_ =>
 M.load (.cell .slice) 1 a1_ fun (x2_ : (Option Addr × Nat × Nat)) =>
 M.append 5 1 1 x2_.1 x2_.2.1 x2_.2.2 (.slice r0_.2.1.1 r0_.2.1.2.1 r0_.2.1.2.2) fun a3_ n4_ c5_ =>
 M.deref x.2.1 fun a6_ =>
 M.store a6_ [(.slice a3_ n4_ c5_)]
 (M.join (fun (j7_ : (Bool) × Unit) =>
 M.pure (.bool j7_.1)) fun go8_ =>
 M.ite (!(r0_.2.2.1 == 0))
 (go8_ (true, ()))
 (M.deref x.2.2.1 fun a10_ =>
 M.load (.cell (.int .u64)) 1 a10_ fun (x11_ : Int) =>
 M.ite (!(r0_.1 == x11_))
 (go8_ (true, ()))
 (go8_ ((r0_.1 == 0), ()))))
def f360 (X : Task → M Value) (L : LoopI) (x : ((Option Addr × Nat × Nat)) × (Option Addr) × (Option Addr) × Unit) : M Value :=
 M.callS (.tuple [(.cell (.int .u64)), (.cell .slice), (.cell (.int .i64))]) (X (.call 359 [(.slice x.1.1 x.1.2.1 x.1.2.2)])) fun (r0_ : (Int) × ((Option Addr × Nat × Nat)) × (Int) × Unit) =>
 f360c0 X L x r0_

theorem e360 (X : Task → M Value) (L : LoopI) (x : ((Option Addr × Nat × Nat)) × (Option Addr) × (Option Addr) × Unit) : evBody CC { call := X, loop := L } 360 (shsInj [(.cell .slice), (.cell .ptr), (.cell .ptr)] x) = f360 X L x := by kernel_rfl

/-- slices.ContainsFunc[[][]byte,[]byte] -/
def f361 (X : Task → M Value) (L : LoopI) (x : ((Option Addr × Nat × Nat)) × (Value) × Unit) : M Value :=
 M.callS (.one (.cell (.int .i64))) (X (.call 378 [(.slice x.1.1 x.1.2.1 x.1.2.2), x.2.1])) fun (r0_ : Int) =>
 M.pure (.bool (decide (r0_ ≥ 0)))

theorem e361 (X : Task → M Value) (L : LoopI) (x : ((Option Addr × Nat × Nat)) × (Value) × Unit) : evBody CC { call := X, loop := L } 361 (shsInj [(.cell .slice), (.cell .val)] x) = f361 X L x := by kernel_rfl

/-- hayrick/matrix.Invert -/
def f362c0 (X : Task → M Value) (L : LoopI) (x : ((Option Addr × Nat × Nat)) × Unit) (v6_ : Int) (b7_ : Nat) (s9_ : (Int) × Unit) : M (((Int) × Unit) ⊕ ((Unit) ⊕ (Unit))) :=
 M.guard (decide (0 ≤ s9_.1) && decide (s9_.1 < ((x.1.2.1 : Nat) : Int)))
 (M.deref x.1.1 fun a11_ =>
 M.load (.cell .slice) 1 (a11_.add ((Int.toNat s9_.1) * 1)) fun (x12_ : (Option Addr × Nat × Nat)) =>
 M.callS (.one (.cell .slice)) (X (.call 236 [(.slice x12_.1 x12_.2.1 x12_.2.2)])) fun (r13_ : (Option Addr × Nat × Nat)) =>
 M.guard (decide (0 ≤ s9_.1) && decide (s9_.1 < (((Int.toNat v6_) : Nat) : Int)))
 (M.store ((Addr.mk b7_ 0 none).add ((Int.toNat s9_.1) * 1)) [(.slice r13_.1 r13_.2.1 r13_.2.2)]
 (M.pure (.inl ((IntKind.i64.wrap (s9_.1 + 1)), ())))))
def f362c1 (X : Task → M Value) (L : LoopI) (x : ((Option Addr × Nat × Nat)) × Unit) (b0_ : Nat) (b1_ : Nat) (v6_ : Int) (b7_ : Nat) (v8_ : Int) : M (Unit) :=
 M.bind (L (σ := (Int) × Unit) (ρ := (Unit) ⊕ (Unit)) (fun s9_ =>
 M.ite (decide (s9_.1 < v8_))
 (f362c0 X L x v6_ b7_ s9_)
 (M.pure (.inr (.inl (()))))) (0, ())) <| M.sum (fun (j15_ : Unit) =>
 M.callS (.tuple [(.cell .slice), (.cell (.int .i64))]) (X (.call 381 [(.int .i64 ((x.1.2.1 : Nat) : Int))])) fun (r17_ : ((Option Addr × Nat × Nat)) × (Int) × Unit) =>
 M.callS (.tuple []) (X (.call 382 [(.slice (some (Addr.mk b7_ 0 none)) (Int.toNat v6_) (Int.toNat v6_)), (.slice r17_.1.1 r17_.1.2.1 r17_.1.2.2)])) fun (r18_ : Unit) =>
 M.store (Addr.mk b0_ 0 none) [(.slice r17_.1.1 r17_.1.2.1 r17_.1.2.2)]
 (M.store (Addr.mk b1_ 0 none) [(.int .i64 0)]
 (M.pure ()))) (fun _ => M.stuck)
def f362c2 (X : Task → M Value) (L : LoopI) (x : ((Option Addr × Nat × Nat)) × Unit) (b0_ : Nat) (b1_ : Nat) : M (Value) :=
 M.afterDefer
 (let v6_ : Int := ((x.1.2.1 : Nat) : Int)
 M.guard (decide (0 ≤ v6_) && decide (v6_ ≤ v6_) && decide ((24 : Int) * v6_ ≤ 2 ^ 48))
 (M.new (.cells (Row.rep [(.slice none 0 0)] (Int.toNat v6_)) 30 false (0, 0) false) fun b7_ =>
 f362c1 X L x b0_ b1_ v6_ b7_ ((x.1.2.1 : Nat) : Int)))
 (fun rc_ => X (.deferred 380 [(.pointer (some (Addr.mk b0_ 0 none))), (.pointer (some (Addr.mk b1_ 0 none)))] rc_))
 (M.load (.cell .slice) 1 (Addr.mk b0_ 0 none) fun (x19_ : (Option Addr × Nat × Nat)) =>
 M.load (.cell (.int .i64)) 1 (Addr.mk b1_ 0 none) fun (x20_ : Int) =>
 M.pure (.tuple ⟨[(.slice x19_.1 x19_.2.1 x19_.2.2), (.int .i64 x20_)]⟩))
def f362c3 (X : Task → M Value) (L : LoopI) (x : ((Option Addr × Nat × Nat)) × Unit) (b0_ : Nat) (b1_ : Nat) : M (Value) :=
 M.join (fun (j2_ : (Bool) × Unit) =>
 M.ite j2_.1
 (M.store (Addr.mk b0_ 0 none) [(.slice none 0 0)]
 (M.store (Addr.mk b1_ 0 none) [(.int .i64 1)]
 (M.load (.cell .slice) 1 (Addr.mk b0_ 0 none) fun (x4_ : (Option Addr × Nat × Nat)) =>
 M.load (.cell (.int .i64)) 1 (Addr.mk b1_ 0 none) fun (x5_ : Int) =>
 M.pure (.tuple ⟨[(.slice x4_.1 x4_.2.1 x4_.2.2), (.int .i64 x5_)]⟩))))
 (f362c2 X L x b0_ b1_)) fun go3_ =>
 M.callS (.one (.cell .bool)) (X (.call 379 [(.slice x.1.1 x.1.2.1 x.1.2.2)])) fun (r21_ : Bool) =>
 M.ite (!r21_)
 (go3_ (true, ()))
 (M.guard (decide (0 ≤ 0) && decide (0 < ((x.1.2.1 : Nat) : Int)))
 (M.deref x.1.1 fun a24_ =>
 M.load (.cell .slice) 1 (a24_.add ((Int.toNat 0) * 1)) fun (x25_ : (Option Addr × Nat × Nat)) =>
 go3_ ((!(((x.1.2.1 : Nat) : Int) == ((x25_.2.1 : Nat) : Int))), ())))
def f362 (X : Task → M Value) (L : LoopI) (x : ((Option Addr × Nat × Nat)) × Unit) : M Value :=
 M.new (.cells (Row.ofList [(.slice none 0 0)]) 468 false (0, 0) false) fun b0_ =>
 M.new (.cells (Row.ofList [(.int .i64 0)]) 33 false (0, 0) false) fun b1_ =>
 f362c3 X L x b0_ b1_

theorem e362 (X : Task → M Value) (L : LoopI) (x : ((Option Addr × Nat × Nat)) × Unit) : evBody CC { call := X, loop := L } 362 (shsInj [(.cell .slice)] x) = f362 X L x := by kernel_rfl

/-- slices.siftDownOrdered[int] -/
def f363c0 (X : Task → M Value) (L : LoopI) (x : ((Option Addr × Nat × Nat)) × (Int) × (Int) × (Int) × Unit) (j4_ : (Int) × Unit) (v14_ : Int) (v15_ : Int) (x18_ : Int) (v19_ : Int) : M (((Int) × Unit) ⊕ ((Unit) ⊕ ((Unit) ⊕ (Unit)))) :=
 M.guard (decide (0 ≤ v19_) && decide (v19_ < ((x.1.2.1 : Nat) : Int)))
 (M.deref x.1.1 fun a20_ =>
 M.load (.cell (.int .i64)) 1 (a20_.add ((Int.toNat v19_) * 1)) fun (x21_ : Int) =>
 M.guard (decide (0 ≤ v14_) && decide (v14_ < ((x.1.2.1 : Nat) : Int)))
 (M.deref x.1.1 fun a22_ =>
 M.store (a22_.add ((Int.toNat v14_) * 1)) [(.int .i64 x18_)]
 (M.guard (decide (0 ≤ v15_) && decide (v15_ < ((x.1.2.1 : Nat) : Int)))
 (M.deref x.1.1 fun a23_ =>
 M.store (a23_.add ((Int.toNat v15_) * 1)) [(.int .i64 x21_)]
 (M.pure (.inl (j4_.1, ())))))))
def f363c1 (X : Task → M Value) (L : LoopI) (x : ((Option Addr × Nat × Nat)) × (Int) × (Int) × (Int) × Unit) (s0_ : (Int) × Unit) (j4_ : (Int) × Unit) (x8_ : Int) (x11_ : Int) : M (((Int) × Unit) ⊕ ((Unit) ⊕ ((Unit) ⊕ (Unit)))) :=
 M.callS (.one (.cell .bool)) (X (.call 338 [(.int .i64 x8_), (.int .i64 x11_)])) fun (r12_ : Bool) =>
 M.ite (!r12_)
 (M.pure (.inr (.inr (.inl (())))))
 (let v16_ : Int := IntKind.i64.wrap (x.2.2.2.1 + j4_.1)
 M.guard (decide (0 ≤ v16_) && decide (v16_ < ((x.1.2.1 : Nat) : Int)))
 (M.deref x.1.1 fun a17_ =>
 M.load (.cell (.int .i64)) 1 (a17_.add ((Int.toNat v16_) * 1)) fun (x18_ : Int) =>
 f363c0 X L x j4_ (IntKind.i64.wrap (x.2.2.2.1 + s0_.1)) (IntKind.i64.wrap (x.2.2.2.1 + j4_.1)) x18_ (IntKind.i64.wrap (x.2.2.2.1 + s0_.1))))
def f363c2 (X : Task → M Value) (L : LoopI) (x : ((Option Addr × Nat × Nat)) × (Int) × (Int) × (Int) × Unit) (v2_ : Int) (go25_ : ((Bool) × Unit) → M (((Int) × Unit) ⊕ ((Unit) ⊕ ((Unit) ⊕ (Unit))))) (v29_ : Int) : M (((Int) × Unit) ⊕ ((Unit) ⊕ ((Unit) ⊕ (Unit)))) :=
 M.guard (decide (0 ≤ v29_) && decide (v29_ < ((x.1.2.1 : Nat) : Int)))
 (M.deref x.1.1 fun a30_ =>
 M.load (.cell (.int .i64)) 1 (a30_.add ((Int.toNat v29_) * 1)) fun (x31_ : Int) =>
 let v33_ : Int := IntKind.i64.wrap ((IntKind.i64.wrap (x.2.2.2.1 + v2_)) + 1)
 M.guard (decide (0 ≤ v33_) && decide (v33_ < ((x.1.2.1 : Nat) : Int)))
 (M.deref x.1.1 fun a34_ =>
 M.load (.cell (.int .i64)) 1 (a34_.add ((Int.toNat v33_) * 1)) fun (x35_ : Int) =>
 M.callS (.one (.cell .bool)) (X (.call 338 [(.int .i64 x31_), (.int .i64 x35_)])) fun (r36_ : Bool) =>
 go25_ (r36_, ())))
def f363c3 (X : Task → M Value) (L : LoopI) (x : ((Option Addr × Nat × Nat)) × (Int) × (Int) × (Int) × Unit) (s0_ : (Int) × Unit) (v2_ : Int) : M (((Int) × Unit) ⊕ ((Unit) ⊕ ((Unit) ⊕ (Unit)))) :=
 M.join (fun (j4_ : (Int) × Unit) =>
 let v6_ : Int := IntKind.i64.wrap (x.2.2.2.1 + s0_.1)
 M.guard (decide (0 ≤ v6_) && decide (v6_ < ((x.1.2.1 : Nat) : Int)))
 (M.deref x.1.1 fun a7_ =>
 M.load (.cell (.int .i64)) 1 (a7_.add ((Int.toNat v6_) * 1)) fun (x8_ : Int) =>
 let v9_ : Int := IntKind.i64.wrap (x.2.2.2.1 + j4_.1)
 M.guard (decide (0 ≤ v9_) && decide (v9_ < ((x.1.2.1 : Nat) : Int)))
 (M.deref x.1.1 fun a10_ =>
 M.load (.cell (.int .i64)) 1 (a10_.add ((Int.toNat v9_) * 1)) fun (x11_ : Int) =>
 f363c1 X L x s0_ j4_ x8_ x11_))) fun go5_ =>
 M.join (fun (j24_ : (Bool) × Unit) =>
 M.ite j24_.1
 (go5_ ((IntKind.i64.wrap (v2_ + 1)), ()))
 (go5_ (v2_, ()))) fun go25_ =>
 M.ite (decide ((IntKind.i64.wrap (v2_ + 1)) < x.2.2.1))
 (f363c2 X L x v2_ go25_ (IntKind.i64.wrap (x.2.2.2.1 + v2_)))
 (go25_ (false, ()))
def f363 (X : Task → M Value) (L : LoopI) (x : ((Option Addr × Nat × Nat)) × (Int) × (Int) × (Int) × Unit) : M Value :=
 M.bind (L (σ := (Int) × Unit) (ρ := (Unit) ⊕ ((Unit) ⊕ (Unit))) (fun s0_ =>
 let v2_ : Int := IntKind.i64.wrap ((IntKind.i64.wrap (2 * s0_.1)) + 1)
 M.ite (decide (v2_ ≥ x.2.2.1))
 (M.pure (.inr (.inl (()))))
 (f363c3 X L x s0_ v2_)) (x.2.1, ())) <| M.sum (fun (j37_ : Unit) =>
 M.pure (.tuple ⟨[]⟩)) (M.sum (fun (j38_ : Unit) =>
 M.pure (.tuple ⟨[]⟩)) (fun _ => M.stuck))

theorem e363 (X : Task → M Value) (L : LoopI) (x : ((Option Addr × Nat × Nat)) × (Int) × (Int) × (Int) × Unit) : evBody CC { call := X, loop := L } 363 (shsInj [(.cell .slice), (.cell (.int .i64)), (.cell (.int .i64)), (.cell (.int .i64))] x) = f363 X L x := by kernel_rfl

/-- slices.nextPowerOfTwo -/
def f364 (X : Task → M Value) (L : LoopI) (x : (Int) × Unit) : M Value :=
 M.callS (.one (.cell (.int .i64))) (X (.call 305 [(.int .u64 (IntKind.u64.wrap x.1))])) fun (r1_ : Int) =>
 M.guard (decide (0 ≤ r1_))
 (M.pure (.int .u64 (IntKind.u64.wrap (1 * 2 ^ (min (Int.toNat r1_) IntKind.u64.bits)))))

theorem e364 (X : Task → M Value) (L : LoopI) (x : (Int) × Unit) : evBody CC { call := X, loop := L } 364 (shsInj [(.cell (.int .i64))] x) = f364 X L x := by kernel_rfl

/-- (*slices.xorshift).Next -/
def f365c0 (X : Task → M Value) (L : LoopI) (x : (Option Addr) × Unit) (x8_ : Int) (v11_ : Int) : M (Value) :=
 M.deref x.1 fun a13_ =>
 M.store a13_ [(.int .u64 (bitsV .xor .u64 x8_ v11_))]
 (M.deref x.1 fun a14_ =>
 M.load (.cell (.int .u64)) 1 a14_ fun (x15_ : Int) =>
 M.deref x.1 fun a16_ =>
 M.load (.cell (.int .u64)) 1 a16_ fun (x17_ : Int) =>
 M.guard (decide (0 ≤ 17))
 (M.deref x.1 fun a20_ =>
 M.store a20_ [(.int .u64 (bitsV .xor .u64 x15_ (IntKind.u64.wrap (x17_ * 2 ^ (min (Int.toNat 17) IntKind.u64.bits)))))]
 (M.deref x.1 fun a21_ =>
 M.load (.cell (.int .u64)) 1 a21_ fun (x22_ : Int) =>
 M.pure (.int .u64 x22_))))
def f365c1 (X : Task → M Value) (L : LoopI) (x : (Option Addr) × Unit) (x1_ : Int) : M (Value) :=
 M.deref x.1 fun a2_ =>
 M.load (.cell (.int .u64)) 1 a2_ fun (x3_ : Int) =>
 M.guard (decide (0 ≤ 13))
 (M.deref x.1 fun a6_ =>
 M.store a6_ [(.int .u64 (bitsV .xor .u64 x1_ (IntKind.u64.wrap (x3_ * 2 ^ (min (Int.toNat 13) IntKind.u64.bits)))))]
 (M.deref x.1 fun a7_ =>
 M.load (.cell (.int .u64)) 1 a7_ fun (x8_ : Int) =>
 M.deref x.1 fun a9_ =>
 M.load (.cell (.int .u64)) 1 a9_ fun (x10_ : Int) =>
 M.guard (decide (0 ≤ 7))
 (f365c0 X L x x8_ (((x10_ : Int)).fdiv (2 ^ (min (Int.toNat 7) IntKind.u64.bits))))))
def f365 (X : Task → M Value) (L : LoopI) (x : (Option Addr) × Unit) : M Value :=
 M.deref x.1 fun a0_ =>
 M.load (.cell (.int .u64)) 1 a0_ fun (x1_ : Int) =>
 f365c1 X L x x1_

theorem e365 (X : Task → M Value) (L : LoopI) (x : (Option Addr) × Unit) : evBody CC { call := X, loop := L } 365 (shsInj [(.cell .ptr)] x) = f365 X L x := by kernel_rfl

/-- slices.medianAdjacentOrdered[int] -/
def f366 (X : Task → M Value) (L : LoopI) (x : ((Option Addr × Nat × Nat)) × (Int) × (Option Addr) × Unit) : M Value :=
 M.callS (.one (.cell (.int .i64))) (X (.call 367 [(.slice x.1.1 x.1.2.1 x.1.2.2), (.int .i64 (IntKind.i64.wrap (x.2.1 - 1))), (.int .i64 x.2.1), (.int .i64 (IntKind.i64.wrap (x.2.1 + 1))), (.pointer x.2.2.1)])) fun (r2_ : Int) =>
 M.pure (.int .i64 r2_)

theorem e366 (X : Task → M Value) (L : LoopI) (x : ((Option Addr × Nat × Nat)) × (Int) × (Option Addr) × Unit) : evBody CC { call := X, loop := L } 366 (shsInj [(.cell .slice), (.cell (.int .i64)), (.cell .ptr)] x) = f366 X L x := by kernel_rfl

/-- slices.medianOrdered[int] -/
def f367c0 (X : Task → M Value) (L : LoopI) (x : ((Option Addr × Nat × Nat)) × (Int) × (Int) × (Int) × (Option Addr) × Unit) : M (Value) :=
 M.callS (.tuple [(.cell (.int .i64)), (.cell (.int .i64))]) (X (.call 383 [(.slice x.1.1 x.1.2.1 x.1.2.2), (.int .i64 x.2.1), (.int .i64 x.2.2.1), (.pointer x.2.2.2.2.1)])) fun (r0_ : (Int) × (Int) × Unit) =>
 M.callS (.tuple [(.cell (.int .i64)), (.cell (.int .i64))]) (X (.call 383 [(.slice x.1.1 x.1.2.1 x.1.2.2), (.int .i64 r0_.2.1), (.int .i64 x.2.2.2.1), (.pointer x.2.2.2.2.1)])) fun (r1_ : (Int) × (Int) × Unit) =>
 M.callS (.tuple [(.cell (.int .i64)), (.cell (.int .i64))]) (X (.call 383 [(.slice x.1.1 x.1.2.1 x.1.2.2), (.int .i64 r0_.1), (.int .i64 r1_.1), (.pointer x.2.2.2.2.1)])) fun (r2_ : (Int) × (Int) × Unit) =>
 M.pure (.int .i64 r2_.2.1)
def f367 (X : Task → M Value) (L : LoopI) (x : ((Option Addr × Nat × Nat)) × (Int) × (Int) × (Int) × (Option Addr) × Unit) : M Value :=
 f367c0 X L x

theorem e367 (X : Task → M Value) (L : LoopI) (x : ((Option Addr × Nat × Nat)) × (Int) × (Int) × (Int) × (Option Addr) × Unit) : evBody CC { call := X, loop := L } 367 (shsInj [(.cell .slice), (.cell (.int .i64)), (.cell (.int .i64)), (.cell (.int .i64)), (.cell .ptr)] x) = f367 X L x := by kernel_rfl

/-- cmp.isNaN[int] -/
def f368 (X : Task → M Value) (L : LoopI) (x : (Int) × Unit) : M Value :=
 M.pure (.bool (!(x.1 == x.1)))

theorem e368 (X : Task → M Value) (L : LoopI) (x : (Int) × Unit) : evBody CC { call := X, loop := L } 368 (shsInj [(.cell (.int .i64))] x) = f368 X L x := by kernel_rfl

/-- hayrick/field.twice -/
def f374 (X : Task → M Value) (L : LoopI) (x : (Int) × Unit) : M Value :=
 M.guard (decide (0 ≤ 1))
 (let v0_ : Int := IntKind.u8.wrap (x.1 * 2 ^ (min (Int.toNat 1) IntKind.u8.bits))
 M.join (fun (j1_ : (Int) × Unit) =>
 M.pure (.int .u8 j1_.1)) fun go2_ =>
 M.ite (decide (x.1 ≥ 128))
 (go2_ ((bitsV .xor .u8 v0_ 29), ()))
 (go2_ (v0_, ())))

theorem e374 (X : Task → M Value) (L : LoopI) (x : (Int) × Unit) : evBody CC { call := X, loop := L } 374 (shsInj [(.cell (.int .u8))] x) = f374 X L x := by kernel_rfl

/-- hayrick/field.Log -/
def f375c0 (X : Task → M Value) (L : LoopI) (x : (Int) × Unit) (r1_ : (List Value) × (List Value) × Unit) : M (Value) :=
 M.new (.cells (Row.ofList (zc 495)) 495 false (0, 0) false) fun b2_ =>
 M.new (.cells (Row.ofList (zc 496)) 496 false (0, 0) false) fun b3_ =>
 cond (Nat.beq r1_.1.length 255) (M.store (Addr.mk b2_ 0 none) r1_.1
 (cond (Nat.beq r1_.2.1.length 256) (M.store (Addr.mk b3_ 0 none) r1_.2.1
 (M.guard (decide (0 ≤ x.1) && decide (x.1 < ((256 : Nat) : Int)))
 (M.load (.cell (.int .i64)) 1 ((Addr.mk b3_ 0 none).add ((Int.toNat x.1) * 1)) fun (x4_ : Int) =>
 M.pure (.tuple ⟨[(.int .i64 x4_), (.int .i64 0)]⟩)))) M.stuck)) M.stuck
def f375 (X : Task → M Value) (L : LoopI) (x : (Int) × Unit) : M Value :=
 M.ite (x.1 == 0)
 (M.pure (.tuple ⟨[(.int .i64 0), (.int .i64 1)]⟩))
 (M.callS (.tuple [.raw, .raw]) (X (.call 384 [])) fun (r1_ : (List Value) × (List Value) × Unit) =>
 f375c0 X L x r1_)

theorem e375 (X : Task → M Value) (L : LoopI) (x : (Int) × Unit) : evBody CC { call := X, loop := L } 375 (shsInj [(.cell (.int .u8))] x) = f375 X L x := by kernel_rfl

/-- hayrick/field.Exp -/
def f376c0 (X : Task → M Value) (L : LoopI) (x : (Int) × Unit) (r0_ : (List Value) × (List Value) × Unit) (b1_ : Nat) : M (Value) :=
 M.new (.cells (Row.ofList (zc 496)) 496 false (0, 0) false) fun b2_ =>
 cond (Nat.beq r0_.1.length 255) (M.store (Addr.mk b1_ 0 none) r0_.1
 (cond (Nat.beq r0_.2.1.length 256) (M.store (Addr.mk b2_ 0 none) r0_.2.1
 (M.callS (.one (.cell (.int .i64))) (X (.call 385 [(.int .i64 x.1)])) fun (r3_ : Int) =>
 M.guard (decide (0 ≤ r3_) && decide (r3_ < ((255 : Nat) : Int)))
 (M.load (.cell (.int .u8)) 1 ((Addr.mk b1_ 0 none).add ((Int.toNat r3_) * 1)) fun (x4_ : Int) =>
 M.pure (.int .u8 x4_)))) M.stuck)) M.stuck
def f376 (X : Task → M Value) (L : LoopI) (x : (Int) × Unit) : M Value :=
 M.callS (.tuple [.raw, .raw]) (X (.call 384 [])) fun (r0_ : (List Value) × (List Value) × Unit) =>
 M.new (.cells (Row.ofList (zc 495)) 495 false (0, 0) false) fun b1_ =>
 f376c0 X L x r0_ b1_

theorem e376 (X : Task → M Value) (L : LoopI) (x : (Int) × Unit) : evBody CC { call := X, loop := L } 376 (shsInj [(.cell (.int .i64))] x) = f376 X L x := by kernel_rfl

/-- (*hayrick/array.Array).Read -/
def f377c0 (X : Task → M Value) (L : LoopI) (x : (Option Addr) × (Int) × (Int) × Unit) (b8_ : Nat) (go15_ : (Unit) → M (((Int) × Unit) ⊕ ((Unit) ⊕ (Unit)))) (x18_ : List Value) (b19_ : Nat) : M (((Int) × Unit) ⊕ ((Unit) ⊕ (Unit))) :=
 cond (Nat.beq x18_.length 66) (M.store (Addr.mk b19_ 0 none) x18_
 (M.join (fun (j20_ : (Bool) × Unit) =>
 M.ite j20_.1
 (M.load .raw 64 ((Addr.mk b19_ 0 none).add 2) fun (x22_ : List Value) =>
 cond (Nat.beq x22_.length 64) (M.store (Addr.mk b8_ 0 none) x22_
 (go15_ (()))) M.stuck)
 (go15_ (()))) fun go21_ =>
 M.load (.cell (.int .i64)) 1 ((Addr.mk b19_ 0 none).add 0) fun (x23_ : Int) =>
 M.ite (x23_ == x.2.1)
 (M.load (.cell (.int .i64)) 1 ((Addr.mk b19_ 0 none).add 1) fun (x25_ : Int) =>
 go21_ ((x25_ == x.2.2.1), ()))
 (go21_ (false, ())))) M.stuck
def f377c1 (X : Task → M Value) (L : LoopI) (x : (Option Addr) × (Int) × (Int) × Unit) (b8_ : Nat) (x10_ : (Option Addr × Nat × Nat)) (v11_ : Int) : M (Value) :=
 M.bind (L (σ := (Int) × Unit) (ρ := (Unit) ⊕ (Unit)) (fun s12_ =>
 M.ite (decide (s12_.1 < v11_))
 (M.join (fun (j14_ : Unit) =>
 M.pure (.inl ((IntKind.i64.wrap (s12_.1 + 1)), ()))) fun go15_ =>
 M.guard (decide (0 ≤ s12_.1) && decide (s12_.1 < ((x10_.2.1 : Nat) : Int)))
 (M.deref x10_.1 fun a17_ =>
 M.load .raw 66 (a17_.add ((Int.toNat s12_.1) * 66)) fun (x18_ : List Value) =>
 M.new (.cells (Row.ofList (zc 323)) 323 false (0, 0) false) fun b19_ =>
 f377c0 X L x b8_ go15_ x18_ b19_))
 (M.pure (.inr (.inl (()))))) (0, ())) <| M.sum (fun (j27_ : Unit) =>
 M.pure (.tuple ⟨[(.slice (some ((Addr.mk b8_ 0 none).add (0 * 1))) (64 - 0) (64 - 0)), (.int .i64 0)]⟩)) (fun _ => M.stuck)
def f377c2 (X : Task → M Value) (L : LoopI) (x : (Option Addr) × (Int) × (Int) × Unit) (a4_ : Addr) : M (Value) :=
 M.load (.cell .slice) 1 (a4_.add ((Int.toNat x.2.1) * 1)) fun (x5_ : (Option Addr × Nat × Nat)) =>
 M.guard (decide (0 ≤ x.2.2.1) && decide (x.2.2.1 < ((x5_.2.1 : Nat) : Int)))
 (M.deref x5_.1 fun a6_ =>
 M.load .raw 64 (a6_.add ((Int.toNat x.2.2.1) * 64)) fun (x7_ : List Value) =>
 M.new (.cells (Row.ofList (zc 321)) 321 false (0, 0) false) fun b8_ =>
 cond (Nat.beq x7_.length 64) (M.store (Addr.mk b8_ 0 none) x7_
 (M.deref x.1 fun a9_ =>
 M.load (.cell .slice) 1 (a9_.add 2) fun (x10_ : (Option Addr × Nat × Nat)) =>
 f377c1 X L x b8_ x10_ ((x10_.2.1 : Nat) : Int))) M.stuck)
def f377 (X : Task → M Value) (L : LoopI) (x : (Option Addr) × (Int) × (Int) × Unit) : M Value :=
 M.callS (.one (.cell (.int .i64))) (X (.call 352 [(.pointer x.1), (.int .i64 x.2.1), (.int .i64 x.2.2.1)])) fun (r0_ : Int) =>
 M.ite (!(r0_ == 0))
 (M.pure (.tuple ⟨[(.slice none 0 0), (.int .i64 r0_)]⟩))
 (M.deref x.1 fun a2_ =>
 M.load (.cell .slice) 1 (a2_.add 1) fun (x3_ : (Option Addr × Nat × Nat)) =>
 M.guard (decide (0 ≤ x.2.1) && decide (x.2.1 < ((x3_.2.1 : Nat) : Int)))
 (M.deref x3_.1 fun a4_ =>
 f377c2 X L x a4_))

theorem e377 (X : Task → M Value) (L : LoopI) (x : (Option Addr) × (Int) × (Int) × Unit) : evBody CC { call := X, loop := L } 377 (shsInj [(.cell .ptr), (.cell (.int .i64)), (.cell (.int .i64))] x) = f377 X L x := by kernel_rfl

/-- slices.IndexFunc[[][]byte,[]byte] -/
def f378c0 (X : Task → M Value) (L : LoopI) (x : ((Option Addr × Nat × Nat)) × (Value) × Unit) (v0_ : Int) : M (Value) :=
 M.bind (L (σ := (Int) × Unit) (ρ := (Unit) ⊕ (((Int) × Unit) ⊕ (Unit))) (fun s1_ =>
 M.ite (decide (s1_.1 < v0_))
 (M.guard (decide (0 ≤ s1_.1) && decide (s1_.1 < ((x.1.2.1 : Nat) : Int)))
 (M.deref x.1.1 fun a3_ =>
 M.load (.cell .slice) 1 (a3_.add ((Int.toNat s1_.1) * 1)) fun (x4_ : (Option Addr × Nat × Nat)) =>
 callV CC ⟨X, L⟩ x.2.1 [(.slice x4_.1 x4_.2.1 x4_.2.2)] fun w6_ => M.need (RSh.prj (.one (.cell .bool)) w6_) fun (r5_ : Bool) =>
 M.ite r5_
 (M.pure (.inr (.inr (.inl (s1_.1, ())))))
 (M.pure (.inl ((IntKind.i64.wrap (s1_.1 + 1)), ())))))
 (M.pure (.inr (.inl (()))))) (0, ())) <| M.sum (fun (j8_ : Unit) =>
 M.pure (.int .i64 (-1))) (M.sum (fun (j9_ : (Int) × Unit) =>
 M.pure (.int .i64 j9_.1)) (fun _ => M.stuck))
def f378 (X : Task → M Value) (L : LoopI) (x : ((Option Addr × Nat × Nat)) × (Value) × Unit) : M Value :=
 f378c0 X L x ((x.1.2.1 : Nat) : Int)

theorem e378 (X : Task → M Value) (L : LoopI) (x : ((Option Addr × Nat × Nat)) × (Value) × Unit) : evBody CC { call := X, loop := L } 378 (shsInj [(.cell .slice), (.cell .val)] x) = f378 X L x := by kernel_rfl

/-- hayrick/matrix.May -/
def f379c0 (X : Task → M Value) (L : LoopI) (x : ((Option Addr × Nat × Nat)) × Unit) (s3_ : (Int) × Unit) : M (((Int) × Unit) ⊕ ((Unit) ⊕ (((Bool) × Unit) ⊕ (Unit)))) :=
 M.guard (decide (0 ≤ s3_.1) && decide (s3_.1 < ((x.1.2.1 : Nat) : Int)))
 (M.deref x.1.1 fun a5_ =>
 M.load (.cell .slice) 1 (a5_.add ((Int.toNat s3_.1) * 1)) fun (x6_ : (Option Addr × Nat × Nat)) =>
 M.guard (decide (0 ≤ 0) && decide (0 < ((x.1.2.1 : Nat) : Int)))
 (M.deref x.1.1 fun a8_ =>
 M.load (.cell .slice) 1 (a8_.add ((Int.toNat 0) * 1)) fun (x9_ : (Option Addr × Nat × Nat)) =>
 M.ite (!(((x6_.2.1 : Nat) : Int) == ((x9_.2.1 : Nat) : Int)))
 (M.pure (.inr (.inr (.inl (false, ())))))
 (M.pure (.inl ((IntKind.i64.wrap (s3_.1 + 1)), ())))))
def f379c1 (X : Task → M Value) (L : LoopI) (x : ((Option Addr × Nat × Nat)) × Unit) (go1_ : ((Bool) × Unit) → M (Value)) (v18_ : Bool) : M (Value) :=
 M.ite v18_
 (go1_ (true, ()))
 (M.guard (decide (0 ≤ 0) && decide (0 < ((x.1.2.1 : Nat) : Int)))
 (M.deref x.1.1 fun a19_ =>
 M.load (.cell .slice) 1 (a19_.add ((Int.toNat 0) * 1)) fun (x20_ : (Option Addr × Nat × Nat)) =>
 M.ite (decide (((x20_.2.1 : Nat) : Int) < 1))
 (go1_ (true, ()))
 (M.guard (decide (0 ≤ 0) && decide (0 < ((x.1.2.1 : Nat) : Int)))
 (M.deref x.1.1 fun a23_ =>
 M.load (.cell .slice) 1 (a23_.add ((Int.toNat 0) * 1)) fun (x24_ : (Option Addr × Nat × Nat)) =>
 go1_ ((decide (((x24_.2.1 : Nat) : Int) > 255)), ())))))
def f379c2 (X : Task → M Value) (L : LoopI) (x : ((Option Addr × Nat × Nat)) × Unit) : M (Value) :=
 M.join (fun (j0_ : (Bool) × Unit) =>
 M.ite j0_.1
 (M.pure (.bool false))
 (M.bind (L (σ := (Int) × Unit) (ρ := (Unit) ⊕ (((Bool) × Unit) ⊕ (Unit))) (fun s3_ =>
 M.ite (decide (s3_.1 < ((x.1.2.1 : Nat) : Int)))
 (f379c0 X L x s3_)
 (M.pure (.inr (.inl (()))))) (0, ())) <| M.sum (fun (j13_ : Unit) =>
 M.pure (.bool true)) (M.sum (fun (j14_ : (Bool) × Unit) =>
 M.pure (.bool j14_.1)) (fun _ => M.stuck)))) fun go1_ =>
 M.ite (decide (((x.1.2.1 : Nat) : Int) < 1))
 (go1_ (true, ()))
 (f379c1 X L x go1_ (decide (((x.1.2.1 : Nat) : Int) > 255)))
def f379 (X : Task → M Value) (L : LoopI) (x : ((Option Addr × Nat × Nat)) × Unit) : M Value :=
 f379c2 X L x

theorem e379 (X : Task → M Value) (L : LoopI) (x : ((Option Addr × Nat × Nat)) × Unit) : evBody CC { call := X, loop := L } 379 (shsInj [(.cell .slice)] x) = f379 X L x := by kernel_rfl

/-- hayrick/matrix.Identity -/
def f381c0 (X : Task → M Value) (L : LoopI) (r2_ : (Option Addr × Nat × Nat)) (v3_ : Int) : M (Value) :=
 M.bind (L (σ := (Int) × Unit) (ρ := (Unit) ⊕ (Unit)) (fun s4_ =>
 M.ite (decide (s4_.1 < v3_))
 (M.guard (decide (0 ≤ s4_.1) && decide (s4_.1 < ((r2_.2.1 : Nat) : Int)))
 (M.deref r2_.1 fun a6_ =>
 M.load (.cell .slice) 1 (a6_.add ((Int.toNat s4_.1) * 1)) fun (x7_ : (Option Addr × Nat × Nat)) =>
 M.guard (decide (0 ≤ s4_.1) && decide (s4_.1 < ((x7_.2.1 : Nat) : Int)))
 (M.deref x7_.1 fun a8_ =>
 M.store (a8_.add ((Int.toNat s4_.1) * 1)) [(.int .u8 1)]
 (M.pure (.inl ((IntKind.i64.wrap (s4_.1 + 1)), ()))))))
 (M.pure (.inr (.inl (()))))) (0, ())) <| M.sum (fun (j10_ : Unit) =>
 M.pure (.tuple ⟨[(.slice r2_.1 r2_.2.1 r2_.2.2), (.int .i64 0)]⟩)) (fun _ => M.stuck)
def f381 (X : Task → M Value) (L : LoopI) (x : (Int) × Unit) : M Value :=
 M.join (fun (j0_ : (Bool) × Unit) =>
 M.ite j0_.1
 (M.pure (.tuple ⟨[(.slice none 0 0), (.int .i64 1)]⟩))
 (M.callS (.one (.cell .slice)) (X (.call 386 [(.int .i64 x.1), (.int .i64 x.1)])) fun (r2_ : (Option Addr × Nat × Nat)) =>
 f381c0 X L r2_ ((r2_.2.1 : Nat) : Int))) fun go1_ =>
 M.ite (decide (x.1 < 1))
 (go1_ (true, ()))
 (go1_ ((decide (x.1 > 255)), ()))

theorem e381 (X : Task → M Value) (L : LoopI) (x : (Int) × Unit) : evBody CC { call := X, loop := L } 381 (shsInj [(.cell (.int .i64))] x) = f381 X L x := by kernel_rfl

/-- hayrick/matrix.solve -/
def f382c0 (X : Task → M Value) (L : LoopI) (x : ((Option Addr × Nat × Nat)) × ((Option Addr × Nat × Nat)) × Unit) (s1_ : (Int) × Unit) (s3_ : (Int) × Unit) : M (((Int) × Unit) ⊕ (((Int) × Unit) ⊕ (Unit))) :=
 M.join (fun (j4_ : (Bool) × Unit) =>
 M.ite j4_.1
 (M.pure (.inl ((IntKind.i64.wrap (s3_.1 + 1)), ())))
 (M.pure (.inr (.inl (s3_.1, ()))))) fun go5_ =>
 M.ite (decide (s3_.1 < ((x.1.2.1 : Nat) : Int)))
 (M.guard (decide (0 ≤ s3_.1) && decide (s3_.1 < ((x.1.2.1 : Nat) : Int)))
 (M.deref x.1.1 fun a9_ =>
 M.load (.cell .slice) 1 (a9_.add ((Int.toNat s3_.1) * 1)) fun (x10_ : (Option Addr × Nat × Nat)) =>
 M.guard (decide (0 ≤ s1_.1) && decide (s1_.1 < ((x10_.2.1 : Nat) : Int)))
 (M.deref x10_.1 fun a11_ =>
 M.load (.cell (.int .u8)) 1 (a11_.add ((Int.toNat s1_.1) * 1)) fun (x12_ : Int) =>
 go5_ ((x12_ == 0), ()))))
 (go5_ (false, ()))
def f382c1 (X : Task → M Value) (L : LoopI) (s1_ : (Int) × Unit) (s37_ : (Int) × Unit) (a39_ : Addr) (x40_ : (Option Addr × Nat × Nat)) (a41_ : Addr) (x42_ : (Option Addr × Nat × Nat)) (r51_ : Int) (r56_ : Int) : M (((Int) × Unit) ⊕ ((Unit) ⊕ (Unit))) :=
 M.load (.cell .slice) 1 (a41_.add ((Int.toNat s1_.1) * 1)) fun (x57_ : (Option Addr × Nat × Nat)) => cond (veqv (.slice x57_.1 x57_.2.1 x57_.2.2) (.slice x42_.1 x42_.2.1 x42_.2.2)) (M.load (.cell .slice) 1 (a39_.add ((Int.toNat s1_.1) * 1)) fun (x58_ : (Option Addr × Nat × Nat)) => cond (veqv (.slice x58_.1 x58_.2.1 x58_.2.2) (.slice x40_.1 x40_.2.1 x40_.2.2)) (M.guard (decide (0 ≤ s37_.1) && decide (s37_.1 < ((x40_.2.1 : Nat) : Int)))
 (M.deref x40_.1 fun a59_ =>
 M.store (a59_.add ((Int.toNat s37_.1) * 1)) [(.int .u8 r51_)]
 (M.guard (decide (0 ≤ s37_.1) && decide (s37_.1 < ((x42_.2.1 : Nat) : Int)))
 (M.deref x42_.1 fun a60_ =>
 M.store (a60_.add ((Int.toNat s37_.1) * 1)) [(.int .u8 r56_)]
 (M.pure (.inl ((IntKind.i64.wrap (s37_.1 + 1)), ()))))))) M.stuck) M.stuck
def f382c2 (X : Task → M Value) (L : LoopI) (s1_ : (Int) × Unit) (r33_ : (Int) × (Int) × Unit) (s37_ : (Int) × Unit) (a39_ : Addr) (x40_ : (Option Addr × Nat × Nat)) (a41_ : Addr) (x42_ : (Option Addr × Nat × Nat)) (a47_ : Addr) (x48_ : (Option Addr × Nat × Nat)) (a49_ : Addr) (x50_ : Int) (r51_ : Int) : M (((Int) × Unit) ⊕ ((Unit) ⊕ (Unit))) :=
 M.load (.cell (.int .u8)) 1 (a49_.add ((Int.toNat s37_.1) * 1)) fun (x52_ : Int) => cond (veqv (.int .u8 x52_) (.int .u8 x50_)) (M.load (.cell .slice) 1 (a47_.add ((Int.toNat s1_.1) * 1)) fun (x53_ : (Option Addr × Nat × Nat)) => cond (veqv (.slice x53_.1 x53_.2.1 x53_.2.2) (.slice x48_.1 x48_.2.1 x48_.2.2)) (M.load (.cell .slice) 1 (a41_.add ((Int.toNat s1_.1) * 1)) fun (x54_ : (Option Addr × Nat × Nat)) => cond (veqv (.slice x54_.1 x54_.2.1 x54_.2.2) (.slice x42_.1 x42_.2.1 x42_.2.2)) (M.load (.cell .slice) 1 (a39_.add ((Int.toNat s1_.1) * 1)) fun (x55_ : (Option Addr × Nat × Nat)) => cond (veqv (.slice x55_.1 x55_.2.1 x55_.2.2) (.slice x40_.1 x40_.2.1 x40_.2.2)) (M.callS (.one (.cell (.int .u8))) (X (.call 349 [(.int .u8 x50_), (.int .u8 r33_.1)])) fun (r56_ : Int) =>
 f382c1 X L s1_ s37_ a39_ x40_ a41_ x42_ r51_ r56_) M.stuck) M.stuck) M.stuck) M.stuck
def f382c3 (X : Task → M Value) (L : LoopI) (x : ((Option Addr × Nat × Nat)) × ((Option Addr × Nat × Nat)) × Unit) (s1_ : (Int) × Unit) (r33_ : (Int) × (Int) × Unit) (s37_ : (Int) × Unit) (a39_ : Addr) (x40_ : (Option Addr × Nat × Nat)) (a41_ : Addr) (x42_ : (Option Addr × Nat × Nat)) (x46_ : Int) : M (((Int) × Unit) ⊕ ((Unit) ⊕ (Unit))) :=
 M.guard (decide (0 ≤ s1_.1) && decide (s1_.1 < ((x.2.1.2.1 : Nat) : Int)))
 (M.deref x.2.1.1 fun a47_ =>
 M.load (.cell .slice) 1 (a47_.add ((Int.toNat s1_.1) * 1)) fun (x48_ : (Option Addr × Nat × Nat)) =>
 M.guard (decide (0 ≤ s37_.1) && decide (s37_.1 < ((x48_.2.1 : Nat) : Int)))
 (M.deref x48_.1 fun a49_ =>
 M.load (.cell (.int .u8)) 1 (a49_.add ((Int.toNat s37_.1) * 1)) fun (x50_ : Int) =>
 M.callS (.one (.cell (.int .u8))) (X (.call 349 [(.int .u8 x46_), (.int .u8 r33_.1)])) fun (r51_ : Int) =>
 f382c2 X L s1_ r33_ s37_ a39_ x40_ a41_ x42_ a47_ x48_ a49_ x50_ r51_))
def f382c4 (X : Task → M Value) (L : LoopI) (x : ((Option Addr × Nat × Nat)) × ((Option Addr × Nat × Nat)) × Unit) (s1_ : (Int) × Unit) (r33_ : (Int) × (Int) × Unit) (s37_ : (Int) × Unit) (a39_ : Addr) (x40_ : (Option Addr × Nat × Nat)) (a41_ : Addr) : M (((Int) × Unit) ⊕ ((Unit) ⊕ (Unit))) :=
 M.load (.cell .slice) 1 (a41_.add ((Int.toNat s1_.1) * 1)) fun (x42_ : (Option Addr × Nat × Nat)) =>
 M.guard (decide (0 ≤ s1_.1) && decide (s1_.1 < ((x.1.2.1 : Nat) : Int)))
 (M.deref x.1.1 fun a43_ =>
 M.load (.cell .slice) 1 (a43_.add ((Int.toNat s1_.1) * 1)) fun (x44_ : (Option Addr × Nat × Nat)) =>
 M.guard (decide (0 ≤ s37_.1) && decide (s37_.1 < ((x44_.2.1 : Nat) : Int)))
 (M.deref x44_.1 fun a45_ =>
 M.load (.cell (.int .u8)) 1 (a45_.add ((Int.toNat s37_.1) * 1)) fun (x46_ : Int) =>
 f382c3 X L x s1_ r33_ s37_ a39_ x40_ a41_ x42_ x46_))
def f382c5 (X : Task → M Value) (L : LoopI) (x : ((Option Addr × Nat × Nat)) × ((Option Addr × Nat × Nat)) × Unit) (s1_ : (Int) × Unit) (s64_ : (Int) × Unit) (go67_ : (Unit) → M (((Int) × Unit) ⊕ ((Unit) ⊕ (Unit)))) (x73_ : Int) : M (((Int) × Unit) ⊕ ((Unit) ⊕ (Unit))) :=
 M.guard (decide (0 ≤ s64_.1) && decide (s64_.1 < ((x.2.1.2.1 : Nat) : Int)))
 (M.deref x.2.1.1 fun a79_ =>
 M.load (.cell .slice) 1 (a79_.add ((Int.toNat s64_.1) * 1)) fun (x80_ : (Option Addr × Nat × Nat)) =>
 M.guard (decide (0 ≤ s1_.1) && decide (s1_.1 < ((x.2.1.2.1 : Nat) : Int)))
 (M.deref x.2.1.1 fun a81_ =>
 M.load (.cell .slice) 1 (a81_.add ((Int.toNat s1_.1) * 1)) fun (x82_ : (Option Addr × Nat × Nat)) =>
 M.callS (.tuple []) (X (.call 387 [(.slice x80_.1 x80_.2.1 x80_.2.2), (.slice x82_.1 x82_.2.1 x82_.2.2), (.int .u8 x73_)])) fun (r83_ : Unit) =>
 go67_ (())))
def f382c6 (X : Task → M Value) (L : LoopI) (x : ((Option Addr × Nat × Nat)) × ((Option Addr × Nat × Nat)) × Unit) (s1_ : (Int) × Unit) (s64_ : (Int) × Unit) (go67_ : (Unit) → M (((Int) × Unit) ⊕ ((Unit) ⊕ (Unit)))) (x73_ : Int) : M (((Int) × Unit) ⊕ ((Unit) ⊕ (Unit))) :=
 M.guard (decide (0 ≤ s64_.1) && decide (s64_.1 < ((x.1.2.1 : Nat) : Int)))
 (M.deref x.1.1 fun a74_ =>
 M.load (.cell .slice) 1 (a74_.add ((Int.toNat s64_.1) * 1)) fun (x75_ : (Option Addr × Nat × Nat)) =>
 M.guard (decide (0 ≤ s1_.1) && decide (s1_.1 < ((x.1.2.1 : Nat) : Int)))
 (M.deref x.1.1 fun a76_ =>
 M.load (.cell .slice) 1 (a76_.add ((Int.toNat s1_.1) * 1)) fun (x77_ : (Option Addr × Nat × Nat)) =>
 M.callS (.tuple []) (X (.call 387 [(.slice x75_.1 x75_.2.1 x75_.2.2), (.slice x77_.1 x77_.2.1 x77_.2.2), (.int .u8 x73_)])) fun (r78_ : Unit) =>
 f382c5 X L x s1_ s64_ go67_ x73_))
def f382c7 (X : Task → M Value) (L : LoopI) (x : ((Option Addr × Nat × Nat)) × ((Option Addr × Nat × Nat)) × Unit) (s1_ : (Int) × Unit) (s64_ : (Int) × Unit) : M (((Int) × Unit) ⊕ ((Unit) ⊕ (Unit))) :=
 M.join (fun (j66_ : Unit) =>
 M.pure (.inl ((IntKind.i64.wrap (s64_.1 + 1)), ()))) fun go67_ =>
 M.ite (!(s64_.1 == s1_.1))
 (M.guard (decide (0 ≤ s64_.1) && decide (s64_.1 < ((x.1.2.1 : Nat) : Int)))
 (M.deref x.1.1 fun a70_ =>
 M.load (.cell .slice) 1 (a70_.add ((Int.toNat s64_.1) * 1)) fun (x71_ : (Option Addr × Nat × Nat)) =>
 M.guard (decide (0 ≤ s1_.1) && decide (s1_.1 < ((x71_.2.1 : Nat) : Int)))
 (M.deref x71_.1 fun a72_ =>
 M.load (.cell (.int .u8)) 1 (a72_.add ((Int.toNat s1_.1) * 1)) fun (x73_ : Int) =>
 f382c6 X L x s1_ s64_ go67_ x73_)))
 (go67_ (()))
def f382c8 (X : Task → M Value) (L : LoopI) (x : ((Option Addr × Nat × Nat)) × ((Option Addr × Nat × Nat)) × Unit) (s1_ : (Int) × Unit) (r33_ : (Int) × (Int) × Unit) (v36_ : Int) : M (((Int) × Unit) ⊕ ((Unit) ⊕ (Unit))) :=
 M.bind (L (σ := (Int) × Unit) (ρ := (Unit) ⊕ (Unit)) (fun s37_ =>
 M.ite (decide (s37_.1 < v36_))
 (M.guard (decide (0 ≤ s1_.1) && decide (s1_.1 < ((x.1.2.1 : Nat) : Int)))
 (M.deref x.1.1 fun a39_ =>
 M.load (.cell .slice) 1 (a39_.add ((Int.toNat s1_.1) * 1)) fun (x40_ : (Option Addr × Nat × Nat)) =>
 M.guard (decide (0 ≤ s1_.1) && decide (s1_.1 < ((x.2.1.2.1 : Nat) : Int)))
 (M.deref x.2.1.1 fun a41_ =>
 f382c4 X L x s1_ r33_ s37_ a39_ x40_ a41_)))
 (M.pure (.inr (.inl (()))))) (0, ())) <| M.sum (fun (j62_ : Unit) =>
 M.bind (L (σ := (Int) × Unit) (ρ := (Unit) ⊕ (Unit)) (fun s64_ =>
 M.ite (decide (s64_.1 < ((x.1.2.1 : Nat) : Int)))
 (f382c7 X L x s1_ s64_)
 (M.pure (.inr (.inl (()))))) (0, ())) <| M.sum (fun (j84_ : Unit) =>
 M.pure (.inl ((IntKind.i64.wrap (s1_.1 + 1)), ()))) (fun _ => M.stuck)) (fun _ => M.stuck)
def f382c9 (X : Task → M Value) (L : LoopI) (x : ((Option Addr × Nat × Nat)) × ((Option Addr × Nat × Nat)) × Unit) (s1_ : (Int) × Unit) (x30_ : (Option Addr × Nat × Nat)) : M (((Int) × Unit) ⊕ ((Unit) ⊕ (Unit))) :=
 M.guard (decide (0 ≤ s1_.1) && decide (s1_.1 < ((x30_.2.1 : Nat) : Int)))
 (M.deref x30_.1 fun a31_ =>
 M.load (.cell (.int .u8)) 1 (a31_.add ((Int.toNat s1_.1) * 1)) fun (x32_ : Int) =>
 M.callS (.tuple [(.cell (.int .u8)), (.cell (.int .i64))]) (X (.call 350 [(.int .u8 x32_)])) fun (r33_ : (Int) × (Int) × Unit) =>
 M.guard (decide (0 ≤ s1_.1) && decide (s1_.1 < ((x.1.2.1 : Nat) : Int)))
 (M.deref x.1.1 fun a34_ =>
 M.load (.cell .slice) 1 (a34_.add ((Int.toNat s1_.1) * 1)) fun (x35_ : (Option Addr × Nat × Nat)) =>
 f382c8 X L x s1_ r33_ ((x35_.2.1 : Nat) : Int)))
def f382c10 (X : Task → M Value) (L : LoopI) (x : ((Option Addr × Nat × Nat)) × ((Option Addr × Nat × Nat)) × Unit) (s1_ : (Int) × Unit) (j14_ : (Int) × Unit) (x24_ : (Option Addr × Nat × Nat)) (x26_ : (Option Addr × Nat × Nat)) : M (((Int) × Unit) ⊕ ((Unit) ⊕ (Unit))) :=
 M.guard (decide (0 ≤ s1_.1) && decide (s1_.1 < ((x.2.1.2.1 : Nat) : Int)))
 (M.deref x.2.1.1 fun a27_ =>
 M.store (a27_.add ((Int.toNat s1_.1) * 1)) [(.slice x24_.1 x24_.2.1 x24_.2.2)]
 (M.guard (decide (0 ≤ j14_.1) && decide (j14_.1 < ((x.2.1.2.1 : Nat) : Int)))
 (M.deref x.2.1.1 fun a28_ =>
 M.store (a28_.add ((Int.toNat j14_.1) * 1)) [(.slice x26_.1 x26_.2.1 x26_.2.2)]
 (M.guard (decide (0 ≤ s1_.1) && decide (s1_.1 < ((x.1.2.1 : Nat) : Int)))
 (M.deref x.1.1 fun a29_ =>
 M.load (.cell .slice) 1 (a29_.add ((Int.toNat s1_.1) * 1)) fun (x30_ : (Option Addr × Nat × Nat)) =>
 f382c9 X L x s1_ x30_)))))
def f382c11 (X : Task → M Value) (L : LoopI) (x : ((Option Addr × Nat × Nat)) × ((Option Addr × Nat × Nat)) × Unit) (s1_ : (Int) × Unit) (j14_ : (Int) × Unit) (x20_ : (Option Addr × Nat × Nat)) (a22_ : Addr) : M (((Int) × Unit) ⊕ ((Unit) ⊕ (Unit))) :=
 M.store (a22_.add ((Int.toNat j14_.1) * 1)) [(.slice x20_.1 x20_.2.1 x20_.2.2)]
 (M.guard (decide (0 ≤ j14_.1) && decide (j14_.1 < ((x.2.1.2.1 : Nat) : Int)))
 (M.deref x.2.1.1 fun a23_ =>
 M.load (.cell .slice) 1 (a23_.add ((Int.toNat j14_.1) * 1)) fun (x24_ : (Option Addr × Nat × Nat)) =>
 M.guard (decide (0 ≤ s1_.1) && decide (s1_.1 < ((x.2.1.2.1 : Nat) : Int)))
 (M.deref x.2.1.1 fun a25_ =>
 M.load (.cell .slice) 1 (a25_.add ((Int.toNat s1_.1) * 1)) fun (x26_ : (Option Addr × Nat × Nat)) =>
 f382c10 X L x s1_ j14_ x24_ x26_)))
def f382c12 (X : Task → M Value) (L : LoopI) (x : ((Option Addr × Nat × Nat)) × ((Option Addr × Nat × Nat)) × Unit) (s1_ : (Int) × Unit) (j14_ : (Int) × Unit) (x18_ : (Option Addr × Nat × Nat)) : M (((Int) × Unit) ⊕ ((Unit) ⊕ (Unit))) :=
 M.guard (decide (0 ≤ s1_.1) && decide (s1_.1 < ((x.1.2.1 : Nat) : Int)))
 (M.deref x.1.1 fun a19_ =>
 M.load (.cell .slice) 1 (a19_.add ((Int.toNat s1_.1) * 1)) fun (x20_ : (Option Addr × Nat × Nat)) =>
 M.guard (decide (0 ≤ s1_.1) && decide (s1_.1 < ((x.1.2.1 : Nat) : Int)))
 (M.deref x.1.1 fun a21_ =>
 M.store (a21_.add ((Int.toNat s1_.1) * 1)) [(.slice x18_.1 x18_.2.1 x18_.2.2)]
 (M.guard (decide (0 ≤ j14_.1) && decide (j14_.1 < ((x.1.2.1 : Nat) : Int)))
 (M.deref x.1.1 fun a22_ =>
 f382c11 X L x s1_ j14_ x20_ a22_))))
def f382c13 (X : Task → M Value) (L : LoopI) (x : ((Option Addr × Nat × Nat)) × ((Option Addr × Nat × Nat)) × Unit) (s1_ : (Int) × Unit) : M (((Int) × Unit) ⊕ ((Unit) ⊕ (Unit))) :=
 M.bind (L (σ := (Int) × Unit) (ρ := ((Int) × Unit) ⊕ (Unit)) (fun s3_ =>
 f382c0 X L x s1_ s3_) (s1_.1, ())) <| M.sum (fun (j14_ : (Int) × Unit) =>
 M.join (fun (j15_ : Unit) =>
 M.guard (decide (0 ≤ j14_.1) && decide (j14_.1 < ((x.1.2.1 : Nat) : Int)))
 (M.deref x.1.1 fun a17_ =>
 M.load (.cell .slice) 1 (a17_.add ((Int.toNat j14_.1) * 1)) fun (x18_ : (Option Addr × Nat × Nat)) =>
 f382c12 X L x s1_ j14_ x18_)) fun go16_ =>
 M.ite (j14_.1 == ((x.1.2.1 : Nat) : Int))
 (M.throw (.iface 489 (.agg ⟨[(.int .i64 s1_.1)]⟩)))
 (go16_ (()))) (fun _ => M.stuck)
def f382 (X : Task → M Value) (L : LoopI) (x : ((Option Addr × Nat × Nat)) × ((Option Addr × Nat × Nat)) × Unit) : M Value :=
 M.bind (L (σ := (Int) × Unit) (ρ := (Unit) ⊕ (Unit)) (fun s1_ =>
 M.ite (decide (s1_.1 < ((x.1.2.1 : Nat) : Int)))
 (f382c13 X L x s1_)
 (M.pure (.inr (.inl (()))))) (0, ())) <| M.sum (fun (j88_ : Unit) =>
 M.pure (.tuple ⟨[]⟩)) (fun _ => M.stuck)

theorem e382 (X : Task → M Value) (L : LoopI) (x : ((Option Addr × Nat × Nat)) × ((Option Addr × Nat × Nat)) × Unit) : evBody CC { call := X, loop := L } 382 (shsInj [(.cell .slice), (.cell .slice)] x) = f382 X L x := by kernel_rfl

/-- slices.order2Ordered[int] -/
def f383c0 (X : Task → M Value) (L : LoopI) (x : ((Option Addr × Nat × Nat)) × (Int) × (Int) × (Option Addr) × Unit) (x1_ : Int) : M (Value) :=
 M.guard (decide (0 ≤ x.2.1) && decide (x.2.1 < ((x.1.2.1 : Nat) : Int)))
 (M.deref x.1.1 fun a2_ =>
 M.load (.cell (.int .i64)) 1 (a2_.add ((Int.toNat x.2.1) * 1)) fun (x3_ : Int) =>
 M.callS (.one (.cell .bool)) (X (.call 338 [(.int .i64 x1_), (.int .i64 x3_)])) fun (r4_ : Bool) =>
 M.ite r4_
 (M.deref x.2.2.2.1 fun a5_ =>
 M.load (.cell (.int .i64)) 1 a5_ fun (x6_ : Int) =>
 M.deref x.2.2.2.1 fun a8_ =>
 M.store a8_ [(.int .i64 (IntKind.i64.wrap (x6_ + 1)))]
 (M.pure (.tuple ⟨[(.int .i64 x.2.2.1), (.int .i64 x.2.1)]⟩)))
 (M.pure (.tuple ⟨[(.int .i64 x.2.1), (.int .i64 x.2.2.1)]⟩)))
def f383 (X : Task → M Value) (L : LoopI) (x : ((Option Addr × Nat × Nat)) × (Int) × (Int) × (Option Addr) × Unit) : M Value :=
 M.guard (decide (0 ≤ x.2.2.1) && decide (x.2.2.1 < ((x.1.2.1 : Nat) : Int)))
 (M.deref x.1.1 fun a0_ =>
 M.load (.cell (.int .i64)) 1 (a0_.add ((Int.toNat x.2.2.1) * 1)) fun (x1_ : Int) =>
 f383c0 X L x x1_)

theorem e383 (X : Task → M Value) (L : LoopI) (x : ((Option Addr × Nat × Nat)) × (Int) × (Int) × (Option Addr) × Unit) : evBody CC { call := X, loop := L } 383 (shsInj [(.cell .slice), (.cell (.int .i64)), (.cell (.int .i64)), (.cell .ptr)] x) = f383 X L x := by kernel_rfl

/-- hayrick/field.tables -/
def f384c0 (X : Task → M Value) (L : LoopI) (b0_ : Nat) (b1_ : Nat) (s2_ : (Int) × (Int) × Unit) : M (((Int) × (Int) × Unit) ⊕ ((Unit) ⊕ (Unit))) :=
 M.ite (decide (s2_.2.1 < 255))
 (M.guard (decide (0 ≤ s2_.2.1) && decide (s2_.2.1 < ((255 : Nat) : Int)))
 (M.store ((Addr.mk b0_ 0 none).add ((Int.toNat s2_.2.1) * 1)) [(.int .u8 s2_.1)]
 (M.guard (decide (0 ≤ s2_.1) && decide (s2_.1 < ((256 : Nat) : Int)))
 (M.store ((Addr.mk b1_ 0 none).add ((Int.toNat s2_.1) * 1)) [(.int .i64 s2_.2.1)]
 (M.callS (.one (.cell (.int .u8))) (X (.call 374 [(.int .u8 s2_.1)])) fun (r4_ : Int) =>
 M.pure (.inl (r4_, (IntKind.i64.wrap (s2_.2.1 + 1)), ())))))))
 (M.pure (.inr (.inl (()))))
def f384c1 (X : Task → M Value) (L : LoopI) (b0_ : Nat) (b1_ : Nat) : M (Value) :=
 M.load .raw 255 (Addr.mk b0_ 0 none) fun (x7_ : List Value) =>
 M.load .raw 256 (Addr.mk b1_ 0 none) fun (x8_ : List Value) =>
 cond (Nat.beq x7_.length 255) (M.store (Addr.mk b0_ 0 none) x7_
 (M.load .raw 256 (Addr.mk b1_ 0 none) fun (x9_ : List Value) => cond (veqv (.agg ⟨x9_⟩) (.agg ⟨x8_⟩)) (cond (Nat.beq x8_.length 256) (M.store (Addr.mk b1_ 0 none) x8_
 (M.load .raw 255 (Addr.mk b0_ 0 none) fun (x10_ : List Value) =>
 M.load .raw 256 (Addr.mk b1_ 0 none) fun (x11_ : List Value) =>
 M.pure (.tuple ⟨[(.agg ⟨x10_⟩), (.agg ⟨x11_⟩)]⟩))) M.stuck) M.stuck)) M.stuck
def f384 (X : Task → M Value) (L : LoopI) (x : Unit) : M Value :=
 M.new (.cells (Row.ofList (zc 495)) 495 false (0, 0) false) fun b0_ =>
 M.new (.cells (Row.ofList (zc 496)) 496 false (0, 0) false) fun b1_ =>
 M.bind (L (σ := (Int) × (Int) × Unit) (ρ := (Unit) ⊕ (Unit)) (fun s2_ =>
 f384c0 X L b0_ b1_ s2_) (1, 0, ())) <| M.sum (fun (j6_ : Unit) =>
 f384c1 X L b0_ b1_) (fun _ => M.stuck)

theorem e384 (X : Task → M Value) (L : LoopI) (x : Unit) : evBody CC { call := X, loop := L } 384 (shsInj [] x) = f384 X L x := by kernel_rfl

/-- hayrick/field.around -/
def f385 (X : Task → M Value) (L : LoopI) (x : (Int) × Unit) : M Value :=
 M.guard (!(decide (255 = 0)))
 (M.guard (!(decide (255 = 0)))
 (M.pure (.int .i64 (((IntKind.i64.wrap (((x.1 : Int).tmod 255) + 255)) : Int).tmod 255))))

theorem e385 (X : Task → M Value) (L : LoopI) (x : (Int) × Unit) : evBody CC { call := X, loop := L } 385 (shsInj [(.cell (.int .i64))] x) = f385 X L x := by kernel_rfl

/-- hayrick/matrix.noughts -/
def f386c0 (X : Task → M Value) (L : LoopI) (x : (Int) × (Int) × Unit) (b0_ : Nat) (v1_ : Int) (s2_ : (Int) × Unit) : M (((Int) × Unit) ⊕ ((Unit) ⊕ (Unit))) :=
 M.ite (decide (s2_.1 < v1_))
 (M.guard (decide (0 ≤ x.2.1) && decide (x.2.1 ≤ x.2.1) && decide ((1 : Int) * x.2.1 ≤ 2 ^ 48))
 (M.new (.cells (Row.rep [(.int .u8 0)] (Int.toNat x.2.1)) 5 false (0, 0) false) fun b4_ =>
 M.guard (decide (0 ≤ s2_.1) && decide (s2_.1 < (((Int.toNat x.1) : Nat) : Int)))
 (M.store ((Addr.mk b0_ 0 none).add ((Int.toNat s2_.1) * 1)) [(.slice (some (Addr.mk b4_ 0 none)) (Int.toNat x.2.1) (Int.toNat x.2.1))]
 (M.pure (.inl ((IntKind.i64.wrap (s2_.1 + 1)), ()))))))
 (M.pure (.inr (.inl (()))))
def f386 (X : Task → M Value) (L : LoopI) (x : (Int) × (Int) × Unit) : M Value :=
 M.guard (decide (0 ≤ x.1) && decide (x.1 ≤ x.1) && decide ((24 : Int) * x.1 ≤ 2 ^ 48))
 (M.new (.cells (Row.rep [(.slice none 0 0)] (Int.toNat x.1)) 30 false (0, 0) false) fun b0_ =>
 M.bind (L (σ := (Int) × Unit) (ρ := (Unit) ⊕ (Unit)) (fun s2_ =>
 f386c0 X L x b0_ (((Int.toNat x.1) : Nat) : Int) s2_) (0, ())) <| M.sum (fun (j6_ : Unit) =>
 M.pure (.slice (some (Addr.mk b0_ 0 none)) (Int.toNat x.1) (Int.toNat x.1))) (fun _ => M.stuck))

theorem e386 (X : Task → M Value) (L : LoopI) (x : (Int) × (Int) × Unit) : evBody CC { call := X, loop := L } 386 (shsInj [(.cell (.int .i64)), (.cell (.int .i64))] x) = f386 X L x := by kernel_rfl

/-- hayrick/matrix.add -/
def f387c0 (X : Task → M Value) (L : LoopI) (x : ((Option Addr × Nat × Nat)) × ((Option Addr × Nat × Nat)) × (Int) × Unit) (s1_ : (Int) × Unit) (x4_ : Int) (a5_ : Addr) (x6_ : Int) : M (((Int) × Unit) ⊕ ((Unit) ⊕ (Unit))) :=
 M.callS (.one (.cell (.int .u8))) (X (.call 349 [(.int .u8 x4_), (.int .u8 x.2.2.1)])) fun (r7_ : Int) =>
 M.load (.cell (.int .u8)) 1 (a5_.add ((Int.toNat s1_.1) * 1)) fun (x8_ : Int) => cond (veqv (.int .u8 x8_) (.int .u8 x6_)) (M.callS (.one (.cell (.int .u8))) (X (.call 348 [(.int .u8 x6_), (.int .u8 r7_)])) fun (r9_ : Int) =>
 M.guard (decide (0 ≤ s1_.1) && decide (s1_.1 < ((x.1.2.1 : Nat) : Int)))
 (M.deref x.1.1 fun a10_ =>
 M.store (a10_.add ((Int.toNat s1_.1) * 1)) [(.int .u8 r9_)]
 (M.pure (.inl ((IntKind.i64.wrap (s1_.1 + 1)), ()))))) M.stuck
def f387c1 (X : Task → M Value) (L : LoopI) (x : ((Option Addr × Nat × Nat)) × ((Option Addr × Nat × Nat)) × (Int) × Unit) (v0_ : Int) : M (Value) :=
 M.bind (L (σ := (Int) × Unit) (ρ := (Unit) ⊕ (Unit)) (fun s1_ =>
 M.ite (decide (s1_.1 < v0_))
 (M.guard (decide (0 ≤ s1_.1) && decide (s1_.1 < ((x.2.1.2.1 : Nat) : Int)))
 (M.deref x.2.1.1 fun a3_ =>
 M.load (.cell (.int .u8)) 1 (a3_.add ((Int.toNat s1_.1) * 1)) fun (x4_ : Int) =>
 M.guard (decide (0 ≤ s1_.1) && decide (s1_.1 < ((x.1.2.1 : Nat) : Int)))
 (M.deref x.1.1 fun a5_ =>
 M.load (.cell (.int .u8)) 1 (a5_.add ((Int.toNat s1_.1) * 1)) fun (x6_ : Int) =>
 f387c0 X L x s1_ x4_ a5_ x6_)))
 (M.pure (.inr (.inl (()))))) (0, ())) <| M.sum (fun (j12_ : Unit) =>
 M.pure (.tuple ⟨[]⟩)) (fun _ => M.stuck)
def f387 (X : Task → M Value) (L : LoopI) (x : ((Option Addr × Nat × Nat)) × ((Option Addr × Nat × Nat)) × (Int) × Unit) : M Value :=
 f387c1 X L x ((x.2.1.2.1 : Nat) : Int)

theorem e387 (X : Task → M Value) (L : LoopI) (x : ((Option Addr × Nat × Nat)) × ((Option Addr × Nat × Nat)) × (Int) × Unit) : evBody CC { call := X, loop := L } 387 (shsInj [(.cell .slice), (.cell .slice), (.cell (.int .u8))] x) = f387 X L x := by kernel_rfl

end
end Go.Proofs.YtcfnndmehnppnaaGreatDoor.pathKnown
