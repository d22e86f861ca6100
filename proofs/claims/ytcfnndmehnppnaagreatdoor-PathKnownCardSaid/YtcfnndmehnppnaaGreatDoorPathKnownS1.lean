/-
  What the functions that PathKnown reaches come to, part 1: each text, and that the reading gives it.
-/
import Derived.Test.YtcfnndmehnppnaaGreatDoorPathKnownH
import Derived.KernelRfl
set_option linter.unusedVariables false
namespace Go.Proofs.YtcfnndmehnppnaaGreatDoor.pathKnown
open Go Go.Eng
noncomputable section
/-- hayrick/summary.Put -/
def f202c0 (X : Task → M Value) (L : LoopI) (s3_ : (Int) × Unit) (x6_ : Int × Bool × Int × Int × Unit) (b7_ : Nat) : M (((Int) × Unit) ⊕ ((Unit) ⊕ ((((Option Addr × Nat × Nat)) × (Int) × Unit) ⊕ (Unit)))) :=
 M.store (Addr.mk b7_ 0 none) [(.int .i64 x6_.1), (.bool x6_.2.1), (.int .i64 x6_.2.2.1), (.int .i64 x6_.2.2.2.1)]
 (M.load (.agg [(.int .i64), .bool, (.int .i64), (.int .i64)]) 4 (Addr.mk b7_ 0 none) fun (x8_ : Int × Bool × Int × Int × Unit) =>
 M.callS (.one (.cell .bool)) (X (.call 258 [(.agg ⟨[(.int .i64 x8_.1), (.bool x8_.2.1), (.int .i64 x8_.2.2.1), (.int .i64 x8_.2.2.2.1)]⟩)])) fun (r9_ : Bool) =>
 M.ite (!r9_)
 (M.pure (.inr (.inr (.inl ((none, 0, 0), 1, ())))))
 (M.pure (.inl ((IntKind.i64.wrap (s3_.1 + 1)), ()))))
def f202c1 (X : Task → M Value) (L : LoopI) (b18_ : Nat) (go23_ : (Unit) → M (((Int) × Unit) ⊕ ((Unit) ⊕ (Unit)))) (b27_ : Nat) (v31_ : Nat) (v32_ : Nat) (x40_ : Int) (v41_ : Int) : M (((Int) × Unit) ⊕ ((Unit) ⊕ (Unit))) :=
 M.load (.cell (.int .i64)) 1 ((Addr.mk b27_ 0 none).add 3) fun (x47_ : Int) => cond (veqv (.int .i64 x47_) (.int .i64 x40_)) (M.guard (decide (0 ≤ 7) && decide (7 < (((v31_ - v32_) : Nat) : Int)))
 (M.store (((Addr.mk b18_ 0 none).add (v32_ * 1)).add ((Int.toNat 7) * 1)) [(.int .u8 v41_)]
 (M.load (.cell .bool) 1 ((Addr.mk b27_ 0 none).add 1) fun (x48_ : Bool) =>
 M.ite x48_
 (M.guard (decide (0 ≤ 1) && decide (1 < (((v31_ - v32_) : Nat) : Int)))
 (M.store (((Addr.mk b18_ 0 none).add (v32_ * 1)).add ((Int.toNat 1) * 1)) [(.int .u8 1)]
 (go23_ (()))))
 (go23_ (()))))) M.stuck
def f202c2 (X : Task → M Value) (L : LoopI) (b18_ : Nat) (go23_ : (Unit) → M (((Int) × Unit) ⊕ ((Unit) ⊕ (Unit)))) (b27_ : Nat) (v31_ : Nat) (v32_ : Nat) (v37_ : Int) (x38_ : Int) (v39_ : Int) (x40_ : Int) (v41_ : Int) : M (((Int) × Unit) ⊕ ((Unit) ⊕ (Unit))) :=
 M.store (((Addr.mk b18_ 0 none).add (v32_ * 1)).add ((Int.toNat 2) * 1)) [(.int .u8 v37_)]
 (M.load (.cell (.int .i64)) 1 ((Addr.mk b27_ 0 none).add 3) fun (x45_ : Int) => cond (veqv (.int .i64 x45_) (.int .i64 x40_)) (M.load (.cell (.int .i64)) 1 ((Addr.mk b27_ 0 none).add 2) fun (x46_ : Int) => cond (veqv (.int .i64 x46_) (.int .i64 x38_)) (M.guard (decide (0 ≤ 3) && decide (3 < (((v31_ - v32_) : Nat) : Int)))
 (M.store (((Addr.mk b18_ 0 none).add (v32_ * 1)).add ((Int.toNat 3) * 1)) [(.int .u8 v39_)]
 (f202c1 X L b18_ go23_ b27_ v31_ v32_ x40_ v41_))) M.stuck) M.stuck)
def f202c3 (X : Task → M Value) (L : LoopI) (b18_ : Nat) (go23_ : (Unit) → M (((Int) × Unit) ⊕ ((Unit) ⊕ (Unit)))) (b27_ : Nat) (v31_ : Nat) (v32_ : Nat) (x35_ : Int) (v37_ : Int) (x38_ : Int) (v39_ : Int) (x40_ : Int) (v41_ : Int) : M (((Int) × Unit) ⊕ ((Unit) ⊕ (Unit))) :=
 M.load (.cell (.int .i64)) 1 ((Addr.mk b27_ 0 none).add 3) fun (x42_ : Int) => cond (veqv (.int .i64 x42_) (.int .i64 x40_)) (M.load (.cell (.int .i64)) 1 ((Addr.mk b27_ 0 none).add 2) fun (x43_ : Int) => cond (veqv (.int .i64 x43_) (.int .i64 x38_)) (M.load (.cell (.int .i64)) 1 ((Addr.mk b27_ 0 none).add 2) fun (x44_ : Int) => cond (veqv (.int .i64 x44_) (.int .i64 x35_)) (M.guard (decide (0 ≤ 2) && decide (2 < (((v31_ - v32_) : Nat) : Int)))
 (f202c2 X L b18_ go23_ b27_ v31_ v32_ v37_ x38_ v39_ x40_ v41_)) M.stuck) M.stuck) M.stuck
def f202c4 (X : Task → M Value) (L : LoopI) (b18_ : Nat) (go23_ : (Unit) → M (((Int) × Unit) ⊕ ((Unit) ⊕ (Unit)))) (b27_ : Nat) (v31_ : Nat) (v32_ : Nat) (v34_ : Int) (x35_ : Int) : M (((Int) × Unit) ⊕ ((Unit) ⊕ (Unit))) :=
 M.guard (decide (0 ≤ 8))
 (M.load (.cell (.int .i64)) 1 ((Addr.mk b27_ 0 none).add 2) fun (x38_ : Int) =>
 M.load (.cell (.int .i64)) 1 ((Addr.mk b27_ 0 none).add 3) fun (x40_ : Int) =>
 M.guard (decide (0 ≤ 0) && decide (0 < (((v31_ - v32_) : Nat) : Int)))
 (M.store (((Addr.mk b18_ 0 none).add (v32_ * 1)).add ((Int.toNat 0) * 1)) [(.int .u8 v34_)]
 (f202c3 X L b18_ go23_ b27_ v31_ v32_ x35_ (IntKind.u8.wrap (((x35_ : Int)).fdiv (2 ^ (min (Int.toNat 8) IntKind.i64.bits)))) x38_ (IntKind.u8.wrap x38_) x40_ (IntKind.u8.wrap x40_))))
def f202c5 (X : Task → M Value) (L : LoopI) (v17_ : Int) (b18_ : Nat) (s20_ : (Int) × Unit) (go23_ : (Unit) → M (((Int) × Unit) ⊕ ((Unit) ⊕ (Unit)))) (b27_ : Nat) : M (((Int) × Unit) ⊕ ((Unit) ⊕ (Unit))) :=
 let v28_ : Int := IntKind.i64.wrap (8 * s20_.1)
 let v30_ : Int := IntKind.i64.wrap ((IntKind.i64.wrap (8 * s20_.1)) + 8)
 M.guard (decide (0 ≤ v30_) && decide (v30_ ≤ (((Int.toNat v17_) : Nat) : Int)))
 (let v31_ : Nat := (Int.toNat v30_)
 M.guard (decide (0 ≤ v28_) && decide (v28_ ≤ ((v31_ : Nat) : Int)))
 (M.load (.cell (.int .i64)) 1 ((Addr.mk b27_ 0 none).add 0) fun (x33_ : Int) =>
 M.load (.cell (.int .i64)) 1 ((Addr.mk b27_ 0 none).add 2) fun (x35_ : Int) =>
 f202c4 X L b18_ go23_ b27_ v31_ (Int.toNat v28_) (IntKind.u8.wrap x33_) x35_))
def f202c6 (X : Task → M Value) (L : LoopI) (x : (Int) × ((Option Addr × Nat × Nat)) × Unit) (v17_ : Int) (b18_ : Nat) (s20_ : (Int) × Unit) (go23_ : (Unit) → M (((Int) × Unit) ⊕ ((Unit) ⊕ (Unit)))) : M (((Int) × Unit) ⊕ ((Unit) ⊕ (Unit))) :=
 M.guard (decide (0 ≤ s20_.1) && decide (s20_.1 < ((x.2.1.2.1 : Nat) : Int)))
 (M.deref x.2.1.1 fun a25_ =>
 M.load (.agg [(.int .i64), .bool, (.int .i64), (.int .i64)]) 4 (a25_.add ((Int.toNat s20_.1) * 4)) fun (x26_ : Int × Bool × Int × Int × Unit) =>
 M.new (.cells (Row.ofList [(.int .i64 0), (.bool false), (.int .i64 0), (.int .i64 0)]) 226 false (0, 0) false) fun b27_ =>
 M.store (Addr.mk b27_ 0 none) [(.int .i64 x26_.1), (.bool x26_.2.1), (.int .i64 x26_.2.2.1), (.int .i64 x26_.2.2.2.1)]
 (f202c5 X L v17_ b18_ s20_ go23_ b27_))
def f202c7 (X : Task → M Value) (L : LoopI) (x : (Int) × ((Option Addr × Nat × Nat)) × Unit) (v17_ : Int) : M (Value) :=
 M.guard (decide (0 ≤ v17_) && decide (v17_ ≤ v17_) && decide ((1 : Int) * v17_ ≤ 2 ^ 48))
 (M.new (.cells (Row.rep [(.int .u8 0)] (Int.toNat v17_)) 5 false (0, 0) false) fun b18_ =>
 M.bind (L (σ := (Int) × Unit) (ρ := (Unit) ⊕ (Unit)) (fun s20_ =>
 M.ite (decide (s20_.1 < ((x.2.1.2.1 : Nat) : Int)))
 (M.join (fun (j22_ : Unit) =>
 M.pure (.inl ((IntKind.i64.wrap (s20_.1 + 1)), ()))) fun go23_ =>
 f202c6 X L x v17_ b18_ s20_ go23_)
 (M.pure (.inr (.inl (()))))) (0, ())) <| M.sum (fun (j49_ : Unit) =>
 M.pure (.tuple ⟨[(.slice (some (Addr.mk b18_ 0 none)) (Int.toNat v17_) (Int.toNat v17_)), (.int .i64 0)]⟩)) (fun _ => M.stuck))
def f202c8 (X : Task → M Value) (L : LoopI) (x : (Int) × ((Option Addr × Nat × Nat)) × Unit) (v2_ : Int) : M (Value) :=
 M.bind (L (σ := (Int) × Unit) (ρ := (Unit) ⊕ ((((Option Addr × Nat × Nat)) × (Int) × Unit) ⊕ (Unit))) (fun s3_ =>
 M.ite (decide (s3_.1 < v2_))
 (M.guard (decide (0 ≤ s3_.1) && decide (s3_.1 < ((x.2.1.2.1 : Nat) : Int)))
 (M.deref x.2.1.1 fun a5_ =>
 M.load (.agg [(.int .i64), .bool, (.int .i64), (.int .i64)]) 4 (a5_.add ((Int.toNat s3_.1) * 4)) fun (x6_ : Int × Bool × Int × Int × Unit) =>
 M.new (.cells (Row.ofList [(.int .i64 0), (.bool false), (.int .i64 0), (.int .i64 0)]) 226 false (0, 0) false) fun b7_ =>
 f202c0 X L s3_ x6_ b7_))
 (M.pure (.inr (.inl (()))))) (0, ())) <| M.sum (fun (j12_ : Unit) =>
 M.callS (.one (.cell (.int .i64))) (X (.call 260 [(.int .i64 x.1)])) fun (r14_ : Int) =>
 M.ite (decide (((x.2.1.2.1 : Nat) : Int) > r14_))
 (M.pure (.tuple ⟨[(.slice none 0 0), (.int .i64 3)]⟩))
 (M.callS (.one (.cell (.int .i64))) (X (.call 238 [(.int .i64 x.1)])) fun (r16_ : Int) =>
 f202c7 X L x (IntKind.i64.wrap (r16_ * 112)))) (M.sum (fun (j50_ : ((Option Addr × Nat × Nat)) × (Int) × Unit) =>
 M.pure (.tuple ⟨[(.slice j50_.1.1 j50_.1.2.1 j50_.1.2.2), (.int .i64 j50_.2.1)]⟩)) (fun _ => M.stuck))
def f202 (X : Task → M Value) (L : LoopI) (x : (Int) × ((Option Addr × Nat × Nat)) × Unit) : M Value :=
 M.callS (.one (.cell .bool)) (X (.call 261 [(.int .i64 x.1)])) fun (r0_ : Bool) =>
 M.ite (!r0_)
 (M.pure (.tuple ⟨[(.slice none 0 0), (.int .i64 1)]⟩))
 (f202c8 X L x ((x.2.1.2.1 : Nat) : Int))

theorem e202 (X : Task → M Value) (L : LoopI) (x : (Int) × ((Option Addr × Nat × Nat)) × Unit) : evBody CC { call := X, loop := L } 202 (shsInj [(.cell (.int .i64)), (.cell .slice)] x) = f202 X L x := by kernel_rfl

/-- (*hayrick/stripe.Stripes).Write -/
def f203c0 (X : Task → M Value) (L : LoopI) (x : (Option Addr) × (Int) × (Int) × ((Option Addr × Nat × Nat)) × Unit) (s23_ : (Int) × Unit) (go26_ : (Unit) → M (((Int) × Unit) ⊕ ((Unit) ⊕ (((Int) × Unit) ⊕ (Unit))))) (a28_ : Addr) : M (((Int) × Unit) ⊕ ((Unit) ⊕ (((Int) × Unit) ⊕ (Unit)))) :=
 M.load (.cell .slice) 1 (a28_.add ((Int.toNat s23_.1) * 1)) fun (x29_ : (Option Addr × Nat × Nat)) =>
 M.deref x.1 fun a30_ =>
 M.load (.cell .ptr) 1 (a30_.add 0) fun (x31_ : Option Addr) =>
 M.callS (.one (.cell .bool)) (X (.call 266 [(.pointer x31_), (.int .i64 s23_.1)])) fun (r32_ : Bool) =>
 M.ite (!r32_)
 (go26_ (()))
 (M.callS (.one (.cell (.int .i64))) (X (.call 267 [(.pointer x.1), (.int .i64 s23_.1), (.int .i64 x.2.1), (.int .u64 x.2.2.1), (.slice x29_.1 x29_.2.1 x29_.2.2)])) fun (r34_ : Int) =>
 M.ite (!(r34_ == 0))
 (M.pure (.inr (.inr (.inl (r34_, ())))))
 (go26_ (())))
def f203c1 (X : Task → M Value) (L : LoopI) (x : (Option Addr) × (Int) × (Int) × ((Option Addr × Nat × Nat)) × Unit) (r20_ : ((Option Addr × Nat × Nat)) × (Int) × Unit) (v22_ : Int) : M (Value) :=
 M.bind (L (σ := (Int) × Unit) (ρ := (Unit) ⊕ (((Int) × Unit) ⊕ (Unit))) (fun s23_ =>
 M.ite (decide (s23_.1 < v22_))
 (M.join (fun (j25_ : Unit) =>
 M.pure (.inl ((IntKind.i64.wrap (s23_.1 + 1)), ()))) fun go26_ =>
 M.guard (decide (0 ≤ s23_.1) && decide (s23_.1 < ((r20_.1.2.1 : Nat) : Int)))
 (M.deref r20_.1.1 fun a28_ =>
 f203c0 X L x s23_ go26_ a28_))
 (M.pure (.inr (.inl (()))))) (0, ())) <| M.sum (fun (j36_ : Unit) =>
 M.pure (.int .i64 0)) (M.sum (fun (j37_ : (Int) × Unit) =>
 M.pure (.int .i64 j37_.1)) (fun _ => M.stuck))
def f203c2 (X : Task → M Value) (L : LoopI) (x : (Option Addr) × (Int) × (Int) × ((Option Addr × Nat × Nat)) × Unit) (a13_ : Addr) (x14_ : Int) (a15_ : Addr) (x16_ : Int) (r17_ : (Option Addr × Nat × Nat)) : M (Value) :=
 M.load (.cell (.int .i64)) 1 ((a15_.add 1).add 1) fun (x18_ : Int) => cond (veqv (.int .i64 x18_) (.int .i64 x16_)) (M.load (.cell (.int .i64)) 1 ((a13_.add 1).add 0) fun (x19_ : Int) => cond (veqv (.int .i64 x19_) (.int .i64 x14_)) (M.callS (.tuple [(.cell .slice), (.cell (.int .i64))]) (X (.call 264 [(.int .i64 x14_), (.int .i64 x16_), (.slice r17_.1 r17_.2.1 r17_.2.2)])) fun (r20_ : ((Option Addr × Nat × Nat)) × (Int) × Unit) =>
 M.ite (!(r20_.2.1 == 0))
 (M.pure (.int .i64 r20_.2.1))
 (f203c1 X L x r20_ ((r20_.1.2.1 : Nat) : Int))) M.stuck) M.stuck
def f203c3 (X : Task → M Value) (L : LoopI) (x : (Option Addr) × (Int) × (Int) × ((Option Addr × Nat × Nat)) × Unit) (a8_ : Addr) (x9_ : Int) (r10_ : Int) : M (Value) :=
 M.load (.cell (.int .i64)) 1 ((a8_.add 1).add 0) fun (x11_ : Int) => cond (veqv (.int .i64 x11_) (.int .i64 x9_)) (M.ite (decide (r10_ < x9_))
 (M.pure (.int .i64 20))
 (M.deref x.1 fun a13_ =>
 M.load (.cell (.int .i64)) 1 ((a13_.add 1).add 0) fun (x14_ : Int) =>
 M.deref x.1 fun a15_ =>
 M.load (.cell (.int .i64)) 1 ((a15_.add 1).add 1) fun (x16_ : Int) =>
 M.callS (.one (.cell .slice)) (X (.call 265 [(.slice x.2.2.2.1.1 x.2.2.2.1.2.1 x.2.2.2.1.2.2)])) fun (r17_ : (Option Addr × Nat × Nat)) =>
 f203c2 X L x a13_ x14_ a15_ x16_ r17_)) M.stuck
def f203c4 (X : Task → M Value) (L : LoopI) (x : (Option Addr) × (Int) × (Int) × ((Option Addr × Nat × Nat)) × Unit) (v0_ : Int) (r1_ : Int × Int × Int × Unit) : M (Value) :=
 M.callS (.one (.cell (.int .i64))) (X (.call 262 [(.pointer x.1), (.int .i64 0), (.int .i64 x.2.1), (.int .u64 x.2.2.1), (.bool (v0_ == (IntKind.i64.wrap (r1_.1 * 448))))])) fun (r4_ : Int) =>
 M.ite (!(r4_ == 0))
 (M.pure (.int .i64 r4_))
 (M.deref x.1 fun a6_ =>
 M.load (.cell .ptr) 1 (a6_.add 0) fun (x7_ : Option Addr) =>
 M.deref x.1 fun a8_ =>
 M.load (.cell (.int .i64)) 1 ((a8_.add 1).add 0) fun (x9_ : Int) =>
 M.callS (.one (.cell (.int .i64))) (X (.call 263 [(.pointer x7_)])) fun (r10_ : Int) =>
 f203c3 X L x a8_ x9_ r10_)
def f203 (X : Task → M Value) (L : LoopI) (x : (Option Addr) × (Int) × (Int) × ((Option Addr × Nat × Nat)) × Unit) : M Value :=
 M.callS (.one (.agg [(.int .i64), (.int .i64), (.int .i64)])) (X (.call 185 [(.pointer x.1)])) fun (r1_ : Int × Int × Int × Unit) =>
 f203c4 X L x ((x.2.2.2.1.2.1 : Nat) : Int) r1_

theorem e203 (X : Task → M Value) (L : LoopI) (x : (Option Addr) × (Int) × (Int) × ((Option Addr × Nat × Nat)) × Unit) : evBody CC { call := X, loop := L } 203 (shsInj [(.cell .ptr), (.cell (.int .i64)), (.cell (.int .u64)), (.cell .slice)] x) = f203 X L x := by kernel_rfl

/-- (*hayrick/array.Array).burns -/
def f204c0 (X : Task → M Value) (L : LoopI) (x : (Option Addr) × Unit) (a0_ : Addr) : M (Value) :=
 M.load (.cell (.int .i64)) 1 (a0_.add 3) fun (x1_ : Int) =>
 M.ite (x1_ == 0)
 (M.pure (.bool false))
 (M.deref x.1 fun a3_ =>
 M.load (.cell (.int .i64)) 1 (a3_.add 3) fun (x4_ : Int) =>
 M.deref x.1 fun a6_ =>
 M.store (a6_.add 3) [(.int .i64 (IntKind.i64.wrap (x4_ - 1)))]
 (M.deref x.1 fun a7_ =>
 M.load (.cell (.int .i64)) 1 (a7_.add 3) fun (x8_ : Int) =>
 M.deref x.1 fun a10_ =>
 M.store (a10_.add 4) [(.bool (x8_ == 0))]
 (M.deref x.1 fun a11_ =>
 M.load (.cell .bool) 1 (a11_.add 4) fun (x12_ : Bool) =>
 M.pure (.bool x12_))))
def f204 (X : Task → M Value) (L : LoopI) (x : (Option Addr) × Unit) : M Value :=
 M.deref x.1 fun a0_ =>
 f204c0 X L x a0_

theorem e204 (X : Task → M Value) (L : LoopI) (x : (Option Addr) × Unit) : evBody CC { call := X, loop := L } 204 (shsInj [(.cell .ptr)] x) = f204 X L x := by kernel_rfl

/-- hayrick/hayrickref14.Put -/
def f206c0 (X : Task → M Value) (L : LoopI) (x : (Int) × ((Option Addr × Nat × Nat)) × Unit) (s2_ : (Int) × Unit) : M (((Int) × Unit) ⊕ ((Unit) ⊕ ((((Option Addr × Nat × Nat)) × (Int) × Unit) ⊕ (Unit)))) :=
 M.guard (decide (0 ≤ s2_.1) && decide (s2_.1 < ((x.2.1.2.1 : Nat) : Int)))
 (M.deref x.2.1.1 fun a5_ =>
 M.load (.agg [(.int .i64), .bool, (.int .i64), (.int .i64)]) 4 (a5_.add ((Int.toNat s2_.1) * 4)) fun (x6_ : Int × Bool × Int × Int × Unit) =>
 M.callS (.one (.cell .bool)) (X (.call 197 [(.agg ⟨[(.int .i64 x6_.1), (.bool x6_.2.1), (.int .i64 x6_.2.2.1), (.int .i64 x6_.2.2.2.1)]⟩)])) fun (r7_ : Bool) =>
 M.ite (!r7_)
 (M.pure (.inr (.inr (.inl ((none, 0, 0), 1, ())))))
 (M.pure (.inl ((IntKind.i64.wrap (s2_.1 + 1)), ()))))
def f206c1 (X : Task → M Value) (L : LoopI) (s14_ : ((Option Addr × Nat × Nat)) × (Int) × Unit) (a17_ : Addr) : M ((((Option Addr × Nat × Nat)) × (Int) × Unit) ⊕ ((((Option Addr × Nat × Nat)) × Unit) ⊕ (Unit))) :=
 M.load (.agg [(.int .i64), .bool, (.int .i64), (.int .i64)]) 4 (a17_.add ((Int.toNat s14_.2.1) * 4)) fun (x18_ : Int × Bool × Int × Int × Unit) =>
 M.callS (.one (.cell .slice)) (X (.call 268 [(.agg ⟨[(.int .i64 x18_.1), (.bool x18_.2.1), (.int .i64 x18_.2.2.1), (.int .i64 x18_.2.2.2.1)]⟩)])) fun (r19_ : (Option Addr × Nat × Nat)) =>
 M.append 5 1 1 s14_.1.1 s14_.1.2.1 s14_.1.2.2 (.slice r19_.1 r19_.2.1 r19_.2.2) fun a20_ n21_ c22_ =>
 M.pure (.inl ((a20_, n21_, c22_), (IntKind.i64.wrap (s14_.2.1 + 1)), ()))
def f206c2 (X : Task → M Value) (L : LoopI) (x : (Int) × ((Option Addr × Nat × Nat)) × Unit) : M (Value) :=
 M.bind (L (σ := ((Option Addr × Nat × Nat)) × (Int) × Unit) (ρ := (((Option Addr × Nat × Nat)) × Unit) ⊕ (Unit)) (fun s14_ =>
 M.ite (decide (s14_.2.1 < ((x.2.1.2.1 : Nat) : Int)))
 (M.guard (decide (0 ≤ s14_.2.1) && decide (s14_.2.1 < ((x.2.1.2.1 : Nat) : Int)))
 (M.deref x.2.1.1 fun a17_ =>
 f206c1 X L s14_ a17_))
 (M.pure (.inr (.inl (s14_.1, ()))))) ((none, 0, 0), 0, ())) <| M.sum (fun (j24_ : ((Option Addr × Nat × Nat)) × Unit) =>
 M.callS (.one (.cell (.int .i64))) (X (.call 255 [(.int .i64 x.1)])) fun (r25_ : Int) =>
 M.append 5 1 1 j24_.1.1 j24_.1.2.1 j24_.1.2.2 (.int .i64 (IntKind.i64.wrap ((IntKind.i64.wrap (112 * r25_)) - ((j24_.1.2.1 : Nat) : Int)))) fun a29_ n30_ c31_ =>
 M.pure (.tuple ⟨[(.slice a29_ n30_ c31_), (.int .i64 0)]⟩)) (fun _ => M.stuck)
def f206c3 (X : Task → M Value) (L : LoopI) (x : (Int) × ((Option Addr × Nat × Nat)) × Unit) : M (Value) :=
 M.bind (L (σ := (Int) × Unit) (ρ := (Unit) ⊕ ((((Option Addr × Nat × Nat)) × (Int) × Unit) ⊕ (Unit))) (fun s2_ =>
 M.ite (decide (s2_.1 < ((x.2.1.2.1 : Nat) : Int)))
 (f206c0 X L x s2_)
 (M.pure (.inr (.inl (()))))) (0, ())) <| M.sum (fun (j10_ : Unit) =>
 M.callS (.one (.cell (.int .i64))) (X (.call 200 [(.int .i64 x.1)])) fun (r12_ : Int) =>
 M.ite (decide (((x.2.1.2.1 : Nat) : Int) > r12_))
 (M.pure (.tuple ⟨[(.slice none 0 0), (.int .i64 3)]⟩))
 (f206c2 X L x)) (M.sum (fun (j32_ : ((Option Addr × Nat × Nat)) × (Int) × Unit) =>
 M.pure (.tuple ⟨[(.slice j32_.1.1 j32_.1.2.1 j32_.1.2.2), (.int .i64 j32_.2.1)]⟩)) (fun _ => M.stuck))
def f206 (X : Task → M Value) (L : LoopI) (x : (Int) × ((Option Addr × Nat × Nat)) × Unit) : M Value :=
 M.join (fun (j0_ : (Bool) × Unit) =>
 M.ite j0_.1
 (M.pure (.tuple ⟨[(.slice none 0 0), (.int .i64 1)]⟩))
 (f206c3 X L x)) fun go1_ =>
 M.ite (decide (x.1 < 1))
 (go1_ (true, ()))
 (go1_ ((decide (x.1 > 254)), ()))

theorem e206 (X : Task → M Value) (L : LoopI) (x : (Int) × ((Option Addr × Nat × Nat)) × Unit) : evBody CC { call := X, loop := L } 206 (shsInj [(.cell (.int .i64)), (.cell .slice)] x) = f206 X L x := by kernel_rfl

/-- (*hayrick/hayrickref08.Stripes).Write -/
def f207c0 (X : Task → M Value) (L : LoopI) (x : (Option Addr) × (Int) × (Int) × ((Option Addr × Nat × Nat)) × Unit) (s11_ : ((Option Addr × Nat × Nat)) × (Int) × Unit) (v15_ : Int) (v17_ : Int) : M ((((Option Addr × Nat × Nat)) × (Int) × Unit) ⊕ ((((Option Addr × Nat × Nat)) × Unit) ⊕ (Unit))) :=
 M.guard (decide (0 ≤ v17_) && decide (v17_ ≤ ((x.2.2.2.1.2.2 : Nat) : Int)))
 (let v18_ : Nat := (Int.toNat v17_)
 M.guard (decide (0 ≤ v15_) && decide (v15_ ≤ ((v18_ : Nat) : Int)))
 (let v19_ : Nat := (Int.toNat v15_)
 M.new (.cells (Row.ofList [(.slice (x.2.2.2.1.1.map (·.add (v19_ * 1))) (v18_ - v19_) (x.2.2.2.1.2.2 - v19_))]) 30 false (0, 0) false) fun b20_ =>
 M.append 30 1 24 s11_.1.1 s11_.1.2.1 s11_.1.2.2 (.slice (some (Addr.mk b20_ 0 none)) 1 1) fun a21_ n22_ c23_ =>
 M.pure (.inl ((a21_, n22_, c23_), (IntKind.i64.wrap (s11_.2.1 + 1)), ()))))
def f207c1 (X : Task → M Value) (L : LoopI) (x : (Option Addr) × (Int) × (Int) × ((Option Addr × Nat × Nat)) × Unit) (r30_ : ((Option Addr × Nat × Nat)) × (Int) × Unit) (s31_ : (Int) × Unit) (go35_ : (Unit) → M (((Int) × Unit) ⊕ ((Unit) ⊕ (((Int) × Unit) ⊕ (Unit))))) (x38_ : Option Addr) : M (((Int) × Unit) ⊕ ((Unit) ⊕ (((Int) × Unit) ⊕ (Unit)))) :=
 M.callS (.one (.cell .bool)) (X (.call 272 [(.pointer x38_), (.int .i64 s31_.1)])) fun (r39_ : Bool) =>
 M.ite r39_
 (M.guard (decide (0 ≤ s31_.1) && decide (s31_.1 < ((r30_.1.2.1 : Nat) : Int)))
 (M.deref r30_.1.1 fun a40_ =>
 M.load (.cell .slice) 1 (a40_.add ((Int.toNat s31_.1) * 1)) fun (x41_ : (Option Addr × Nat × Nat)) =>
 M.callS (.one (.cell (.int .i64))) (X (.call 273 [(.pointer x.1), (.int .i64 s31_.1), (.int .i64 x.2.1), (.int .u64 x.2.2.1), (.slice x41_.1 x41_.2.1 x41_.2.2)])) fun (r42_ : Int) =>
 M.ite (!(r42_ == 0))
 (M.pure (.inr (.inr (.inl (r42_, ())))))
 (go35_ (()))))
 (go35_ (()))
def f207c2 (X : Task → M Value) (L : LoopI) (x : (Option Addr) × (Int) × (Int) × ((Option Addr × Nat × Nat)) × Unit) (r30_ : ((Option Addr × Nat × Nat)) × (Int) × Unit) : M (Value) :=
 M.bind (L (σ := (Int) × Unit) (ρ := (Unit) ⊕ (((Int) × Unit) ⊕ (Unit))) (fun s31_ =>
 M.ite (decide (s31_.1 < ((r30_.1.2.1 : Nat) : Int)))
 (M.join (fun (j34_ : Unit) =>
 M.pure (.inl ((IntKind.i64.wrap (s31_.1 + 1)), ()))) fun go35_ =>
 M.deref x.1 fun a37_ =>
 M.load (.cell .ptr) 1 (a37_.add 0) fun (x38_ : Option Addr) =>
 f207c1 X L x r30_ s31_ go35_ x38_)
 (M.pure (.inr (.inl (()))))) (0, ())) <| M.sum (fun (j44_ : Unit) =>
 M.pure (.int .i64 0)) (M.sum (fun (j45_ : (Int) × Unit) =>
 M.pure (.int .i64 j45_.1)) (fun _ => M.stuck))
def f207c3 (X : Task → M Value) (L : LoopI) (x : (Option Addr) × (Int) × (Int) × ((Option Addr × Nat × Nat)) × Unit) : M (Value) :=
 M.bind (L (σ := ((Option Addr × Nat × Nat)) × (Int) × Unit) (ρ := (((Option Addr × Nat × Nat)) × Unit) ⊕ (Unit)) (fun s11_ =>
 M.deref x.1 fun a12_ =>
 M.load (.cell (.int .i64)) 1 ((a12_.add 1).add 0) fun (x13_ : Int) =>
 M.ite (decide (s11_.2.1 < x13_))
 (f207c0 X L x s11_ (IntKind.i64.wrap (448 * s11_.2.1)) (IntKind.i64.wrap ((IntKind.i64.wrap (448 * s11_.2.1)) + 448)))
 (M.pure (.inr (.inl (s11_.1, ()))))) ((none, 0, 0), 0, ())) <| M.sum (fun (j25_ : ((Option Addr × Nat × Nat)) × Unit) =>
 M.deref x.1 fun a26_ =>
 M.load (.cell (.int .i64)) 1 ((a26_.add 1).add 0) fun (x27_ : Int) =>
 M.deref x.1 fun a28_ =>
 M.load (.cell (.int .i64)) 1 ((a28_.add 1).add 1) fun (x29_ : Int) =>
 M.callS (.tuple [(.cell .slice), (.cell (.int .i64))]) (X (.call 271 [(.int .i64 x27_), (.int .i64 x29_), (.slice j25_.1.1 j25_.1.2.1 j25_.1.2.2)])) fun (r30_ : ((Option Addr × Nat × Nat)) × (Int) × Unit) =>
 f207c2 X L x r30_) (fun _ => M.stuck)
def f207c4 (X : Task → M Value) (L : LoopI) (x : (Option Addr) × (Int) × (Int) × ((Option Addr × Nat × Nat)) × Unit) : M (Value) :=
 M.join (fun (j2_ : (Bool) × Unit) =>
 M.ite j2_.1
 (M.pure (.int .i64 1))
 (M.deref x.1 fun a4_ =>
 M.load (.cell .ptr) 1 (a4_.add 0) fun (x5_ : Option Addr) =>
 M.deref x.1 fun a6_ =>
 M.load (.cell (.int .i64)) 1 ((a6_.add 1).add 0) fun (x7_ : Int) =>
 M.callS (.one (.cell (.int .i64))) (X (.call 270 [(.pointer x5_)])) fun (r8_ : Int) =>
 M.load (.cell (.int .i64)) 1 ((a6_.add 1).add 0) fun (x9_ : Int) => cond (veqv (.int .i64 x9_) (.int .i64 x7_)) (M.ite (decide (r8_ < x7_))
 (M.pure (.int .i64 20))
 (f207c3 X L x)) M.stuck)) fun go3_ =>
 M.ite (x.2.2.1 == 0)
 (go3_ (true, ()))
 (M.deref x.1 fun a48_ =>
 M.load (.cell (.int .i64)) 1 ((a48_.add 1).add 0) fun (x49_ : Int) =>
 go3_ ((!(((x.2.2.2.1.2.1 : Nat) : Int) == (IntKind.i64.wrap (x49_ * 448)))), ()))
def f207 (X : Task → M Value) (L : LoopI) (x : (Option Addr) × (Int) × (Int) × ((Option Addr × Nat × Nat)) × Unit) : M Value :=
 M.callS (.one (.cell (.int .i64))) (X (.call 269 [(.pointer x.1), (.int .i64 0), (.int .i64 x.2.1)])) fun (r0_ : Int) =>
 M.ite (!(r0_ == 0))
 (M.pure (.int .i64 r0_))
 (f207c4 X L x)

theorem e207 (X : Task → M Value) (L : LoopI) (x : (Option Addr) × (Int) × (Int) × ((Option Addr × Nat × Nat)) × Unit) : evBody CC { call := X, loop := L } 207 (shsInj [(.cell .ptr), (.cell (.int .i64)), (.cell (.int .u64)), (.cell .slice)] x) = f207 X L x := by kernel_rfl

/-- (*hayrick/hayrickref06.Array).goes -/
def f208c0 (X : Task → M Value) (L : LoopI) (x : (Option Addr) × Unit) (v2_ : Bool) : M (Value) :=
 M.ite v2_
 (M.pure (.bool false))
 (M.deref x.1 fun a3_ =>
 M.load (.cell (.int .i64)) 1 (a3_.add 3) fun (x4_ : Int) =>
 M.deref x.1 fun a6_ =>
 M.store (a6_.add 3) [(.int .i64 (IntKind.i64.wrap (x4_ - 1)))]
 (M.join (fun (j7_ : Unit) =>
 M.deref x.1 fun a9_ =>
 M.load (.cell .bool) 1 (a9_.add 4) fun (x10_ : Bool) =>
 M.pure (.bool x10_)) fun go8_ =>
 M.deref x.1 fun a11_ =>
 M.load (.cell (.int .i64)) 1 (a11_.add 3) fun (x12_ : Int) =>
 M.ite (x12_ == 0)
 (M.deref x.1 fun a14_ =>
 M.store (a14_.add 4) [(.bool true)]
 (go8_ (())))
 (go8_ (()))))
def f208 (X : Task → M Value) (L : LoopI) (x : (Option Addr) × Unit) : M Value :=
 M.deref x.1 fun a0_ =>
 M.load (.cell (.int .i64)) 1 (a0_.add 3) fun (x1_ : Int) =>
 f208c0 X L x (x1_ == 0)

theorem e208 (X : Task → M Value) (L : LoopI) (x : (Option Addr) × Unit) : evBody CC { call := X, loop := L } 208 (shsInj [(.cell .ptr)] x) = f208 X L x := by kernel_rfl

/-- hayrick/hayrickref06.own -/
def f209 (X : Task → M Value) (L : LoopI) (x : ((Option Addr × Nat × Nat)) × Unit) : M Value :=
 M.append 5 1 1 none 0 0 (.slice x.1.1 x.1.2.1 x.1.2.2) fun a0_ n1_ c2_ =>
 M.pure (.slice a0_ n1_ c2_)

theorem e209 (X : Task → M Value) (L : LoopI) (x : ((Option Addr × Nat × Nat)) × Unit) : evBody CC { call := X, loop := L } 209 (shsInj [(.cell .slice)] x) = f209 X L x := by kernel_rfl

/-- unicode/utf8.decodeRuneInStringSlow -/
def f225c0 (X : Task → M Value) (L : LoopI) (v19_ : Int) (v29_ : Int) (v43_ : Int) (v47_ : Int) : M (Value) :=
 M.guard (decide (0 ≤ 18))
 (M.guard (decide (0 ≤ 12))
 (M.guard (decide (0 ≤ 6))
 (M.pure (.tuple ⟨[(.int .i32 (bitsV .or .i32 (bitsV .or .i32 (bitsV .or .i32 (IntKind.i32.wrap (v47_ * 2 ^ (min (Int.toNat 18) IntKind.i32.bits))) (IntKind.i32.wrap ((IntKind.i32.wrap (bitsV .and .u8 v19_ 63)) * 2 ^ (min (Int.toNat 12) IntKind.i32.bits)))) (IntKind.i32.wrap ((IntKind.i32.wrap (bitsV .and .u8 v29_ 63)) * 2 ^ (min (Int.toNat 6) IntKind.i32.bits)))) (IntKind.i32.wrap (bitsV .and .u8 v43_ 63)))), (.int .i64 4)]⟩))))
def f225c1 (X : Task → M Value) (L : LoopI) (x : (ByteArray) × Unit) (v2_ : Int) (v19_ : Int) (v29_ : Int) (v32_ : Bool) : M (Value) :=
 M.ite v32_
 (M.guard (decide (0 ≤ 12))
 (M.guard (decide (0 ≤ 6))
 (M.pure (.tuple ⟨[(.int .i32 (bitsV .or .i32 (bitsV .or .i32 (IntKind.i32.wrap ((IntKind.i32.wrap (bitsV .and .u8 v2_ 15)) * 2 ^ (min (Int.toNat 12) IntKind.i32.bits))) (IntKind.i32.wrap ((IntKind.i32.wrap (bitsV .and .u8 v19_ 63)) * 2 ^ (min (Int.toNat 6) IntKind.i32.bits)))) (IntKind.i32.wrap (bitsV .and .u8 v29_ 63)))), (.int .i64 3)]⟩))))
 (M.guard (decide (0 ≤ 3) && decide (3 < (x.1.size : Int)))
 (let v43_ : Int := byteAt x.1 3
 M.join (fun (j44_ : (Bool) × Unit) =>
 M.ite j44_.1
 (M.pure (.tuple ⟨[(.int .i32 65533), (.int .i64 1)]⟩))
 (f225c0 X L v19_ v29_ v43_ (IntKind.i32.wrap (bitsV .and .u8 v2_ 7)))) fun go45_ =>
 M.ite (decide (v43_ < 128))
 (go45_ (true, ()))
 (go45_ ((decide (191 < v43_)), ()))))
def f225c2 (X : Task → M Value) (L : LoopI) (x : (ByteArray) × Unit) (v2_ : Int) (v14_ : Int) (v19_ : Int) (v22_ : Bool) : M (Value) :=
 M.ite v22_
 (M.guard (decide (0 ≤ 6))
 (M.pure (.tuple ⟨[(.int .i32 (bitsV .or .i32 (IntKind.i32.wrap ((IntKind.i32.wrap (bitsV .and .u8 v2_ 31)) * 2 ^ (min (Int.toNat 6) IntKind.i32.bits))) (IntKind.i32.wrap (bitsV .and .u8 v19_ 63)))), (.int .i64 2)]⟩)))
 (M.guard (decide (0 ≤ 2) && decide (2 < (x.1.size : Int)))
 (let v29_ : Int := byteAt x.1 2
 M.join (fun (j30_ : (Bool) × Unit) =>
 M.ite j30_.1
 (M.pure (.tuple ⟨[(.int .i32 65533), (.int .i64 1)]⟩))
 (f225c1 X L x v2_ v19_ v29_ (decide (v14_ ≤ 3)))) fun go31_ =>
 M.ite (decide (v29_ < 128))
 (go31_ (true, ()))
 (go31_ ((decide (191 < v29_)), ()))))
def f225c3 (X : Task → M Value) (L : LoopI) (x : (ByteArray) × Unit) (v2_ : Int) (v14_ : Int) (b17_ : Nat) (v18_ : Bool) : M (Value) :=
 M.ite v18_
 (M.pure (.tuple ⟨[(.int .i32 65533), (.int .i64 1)]⟩))
 (M.guard (decide (0 ≤ 1) && decide (1 < (x.1.size : Int)))
 (let v19_ : Int := byteAt x.1 1
 M.join (fun (j20_ : (Bool) × Unit) =>
 M.ite j20_.1
 (M.pure (.tuple ⟨[(.int .i32 65533), (.int .i64 1)]⟩))
 (f225c2 X L x v2_ v14_ v19_ (decide (v14_ ≤ 2)))) fun go21_ =>
 M.load (.cell (.int .u8)) 1 ((Addr.mk b17_ 0 none).add 0) fun (x64_ : Int) =>
 M.ite (decide (v19_ < x64_))
 (go21_ (true, ()))
 (M.load (.cell (.int .u8)) 1 ((Addr.mk b17_ 0 none).add 1) fun (x66_ : Int) =>
 go21_ ((decide (x66_ < v19_)), ()))))
def f225c4 (X : Task → M Value) (L : LoopI) (x : (ByteArray) × Unit) (v0_ : Int) (v2_ : Int) (x3_ : Int) (v14_ : Int) : M (Value) :=
 M.guard (decide (0 ≤ 4))
 (let v15_ : Int := ((x3_ : Int)).fdiv (2 ^ (min (Int.toNat 4) IntKind.u8.bits))
 M.guard (decide (0 ≤ v15_) && decide (v15_ < ((16 : Nat) : Int)))
 (M.load (.agg [(.int .u8), (.int .u8)]) 2 ((Addr.mk 2 0 none).add ((Int.toNat v15_) * 2)) fun (x16_ : Int × Int × Unit) =>
 M.new (.cells (Row.ofList [(.int .u8 0), (.int .u8 0)]) 407 false (0, 0) false) fun b17_ =>
 M.store (Addr.mk b17_ 0 none) [(.int .u8 x16_.1), (.int .u8 x16_.2.1)]
 (f225c3 X L x v2_ v14_ b17_ (decide (v0_ < v14_)))))
def f225c5 (X : Task → M Value) (L : LoopI) (x : (ByteArray) × Unit) (v0_ : Int) (v2_ : Int) (x3_ : Int) (v4_ : Bool) : M (Value) :=
 M.ite v4_
 (M.guard (decide (0 ≤ 31))
 (M.guard (decide (0 ≤ 31))
 (let v7_ : Int := (((IntKind.i32.wrap ((IntKind.i32.wrap x3_) * 2 ^ (min (Int.toNat 31) IntKind.i32.bits))) : Int)).fdiv (2 ^ (min (Int.toNat 31) IntKind.i32.bits))
 M.guard (decide (0 ≤ 0) && decide (0 < (x.1.size : Int)))
 (M.pure (.tuple ⟨[(.int .i32 (bitsV .or .i32 (bitsV .andNot .i32 (IntKind.i32.wrap (byteAt x.1 0)) v7_) (bitsV .and .i32 65533 v7_))), (.int .i64 1)]⟩)))))
 (f225c4 X L x v0_ v2_ x3_ (IntKind.i64.wrap (bitsV .and .u8 x3_ 7)))
def f225 (X : Task → M Value) (L : LoopI) (x : (ByteArray) × Unit) : M Value :=
 let v0_ : Int := ((x.1.size : Nat) : Int)
 M.ite (decide (v0_ < 1))
 (M.pure (.tuple ⟨[(.int .i32 65533), (.int .i64 0)]⟩))
 (M.guard (decide (0 ≤ 0) && decide (0 < (x.1.size : Int)))
 (let v2_ : Int := byteAt x.1 0
 M.guard (decide (0 ≤ v2_) && decide (v2_ < ((256 : Nat) : Int)))
 (M.load (.cell (.int .u8)) 1 ((Addr.mk 1 0 none).add ((Int.toNat v2_) * 1)) fun (x3_ : Int) =>
 f225c5 X L x v0_ v2_ x3_ (decide (x3_ ≥ 240)))))

theorem e225 (X : Task → M Value) (L : LoopI) (x : (ByteArray) × Unit) : evBody CC { call := X, loop := L } 225 (shsInj [(.cell .string)] x) = f225 X L x := by kernel_rfl

/-- slices.IndexFunc[[]uint32,uint32] -/
def f227c0 (X : Task → M Value) (L : LoopI) (x : ((Option Addr × Nat × Nat)) × (Value) × Unit) (v0_ : Int) : M (Value) :=
 M.bind (L (σ := (Int) × Unit) (ρ := (Unit) ⊕ (((Int) × Unit) ⊕ (Unit))) (fun s1_ =>
 M.ite (decide (s1_.1 < v0_))
 (M.guard (decide (0 ≤ s1_.1) && decide (s1_.1 < ((x.1.2.1 : Nat) : Int)))
 (M.deref x.1.1 fun a3_ =>
 M.load (.cell (.int .u32)) 1 (a3_.add ((Int.toNat s1_.1) * 1)) fun (x4_ : Int) =>
 callV CC ⟨X, L⟩ x.2.1 [(.int .u32 x4_)] fun w6_ => M.need (RSh.prj (.one (.cell .bool)) w6_) fun (r5_ : Bool) =>
 M.ite r5_
 (M.pure (.inr (.inr (.inl (s1_.1, ())))))
 (M.pure (.inl ((IntKind.i64.wrap (s1_.1 + 1)), ())))))
 (M.pure (.inr (.inl (()))))) (0, ())) <| M.sum (fun (j8_ : Unit) =>
 M.pure (.int .i64 (-1))) (M.sum (fun (j9_ : (Int) × Unit) =>
 M.pure (.int .i64 j9_.1)) (fun _ => M.stuck))
def f227 (X : Task → M Value) (L : LoopI) (x : ((Option Addr × Nat × Nat)) × (Value) × Unit) : M Value :=
 f227c0 X L x ((x.1.2.1 : Nat) : Int)

theorem e227 (X : Task → M Value) (L : LoopI) (x : ((Option Addr × Nat × Nat)) × (Value) × Unit) : evBody CC { call := X, loop := L } 227 (shsInj [(.cell .slice), (.cell .val)] x) = f227 X L x := by kernel_rfl

/-- slices.Clone[[]uint32,uint32] -/
def f228 (X : Task → M Value) (L : LoopI) (x : ((Option Addr × Nat × Nat)) × Unit) : M Value :=
 M.ite x.1.1.isNone
 (M.pure (.slice none 0 0))
 (M.new (.cells (Row.ofList []) 86 false (0, 0) false) fun b0_ =>
 M.append 86 1 4 (some (Addr.mk b0_ 0 none)) 0 0 (.slice x.1.1 x.1.2.1 x.1.2.2) fun a1_ n2_ c3_ =>
 M.pure (.slice a1_ n2_ c3_))

theorem e228 (X : Task → M Value) (L : LoopI) (x : ((Option Addr × Nat × Nat)) × Unit) : evBody CC { call := X, loop := L } 228 (shsInj [(.cell .slice)] x) = f228 X L x := by kernel_rfl

/-- hayrick/hayrickref13.Put -/
def f229c0 (X : Task → M Value) (L : LoopI) (b2_ : Nat) (s3_ : (Int) × Unit) (x7_ : Int) : M (((Int) × Unit) ⊕ ((Unit) ⊕ (Unit))) :=
 M.bind (L (σ := (Int) × (Int) × Unit) (ρ := (Unit) ⊕ (Unit)) (fun s8_ =>
 M.ite (decide (s8_.2.1 ≥ 0))
 (let v11_ : Int := IntKind.i64.wrap ((IntKind.i64.wrap (4 * s3_.1)) + s8_.2.1)
 M.guard (!(decide (256 = 0)))
 (M.guard (decide (0 ≤ v11_) && decide (v11_ < (((Int.toNat 112) : Nat) : Int)))
 (M.store ((Addr.mk b2_ 0 none).add ((Int.toNat v11_) * 1)) [(.int .u8 (IntKind.u8.wrap ((s8_.1 : Int).tmod 256)))]
 (M.guard (!(decide (256 = 0)))
 (M.pure (.inl ((IntKind.u32.wrap ((s8_.1 : Int).tdiv 256)), (IntKind.i64.wrap (s8_.2.1 - 1)), ())))))))
 (M.pure (.inr (.inl (()))))) (x7_, 3, ())) <| M.sum (fun (j16_ : Unit) =>
 M.pure (.inl ((IntKind.i64.wrap (s3_.1 + 1)), ()))) (fun _ => M.stuck)
def f229c1 (X : Task → M Value) (L : LoopI) (x : ((Option Addr × Nat × Nat)) × Unit) (b2_ : Nat) : M (Value) :=
 M.bind (L (σ := (Int) × Unit) (ρ := (Unit) ⊕ (Unit)) (fun s3_ =>
 M.ite (decide (s3_.1 < ((x.1.2.1 : Nat) : Int)))
 (M.guard (decide (0 ≤ s3_.1) && decide (s3_.1 < ((x.1.2.1 : Nat) : Int)))
 (M.deref x.1.1 fun a6_ =>
 M.load (.cell (.int .u32)) 1 (a6_.add ((Int.toNat s3_.1) * 1)) fun (x7_ : Int) =>
 f229c0 X L b2_ s3_ x7_))
 (M.pure (.inr (.inl (()))))) (0, ())) <| M.sum (fun (j18_ : Unit) =>
 M.pure (.tuple ⟨[(.slice (some (Addr.mk b2_ 0 none)) (Int.toNat 112) (Int.toNat 112)), (.int .i64 0)]⟩)) (fun _ => M.stuck)
def f229 (X : Task → M Value) (L : LoopI) (x : ((Option Addr × Nat × Nat)) × Unit) : M Value :=
 M.ite (decide (((x.1.2.1 : Nat) : Int) > 28))
 (M.pure (.tuple ⟨[(.slice none 0 0), (.int .i64 3)]⟩))
 (M.guard (decide (0 ≤ 112) && decide (112 ≤ 112) && decide ((1 : Int) * 112 ≤ 2 ^ 48))
 (M.new (.cells (Row.rep [(.int .u8 0)] (Int.toNat 112)) 5 false (0, 0) false) fun b2_ =>
 f229c1 X L x b2_))

theorem e229 (X : Task → M Value) (L : LoopI) (x : ((Option Addr × Nat × Nat)) × Unit) : evBody CC { call := X, loop := L } 229 (shsInj [(.cell .slice)] x) = f229 X L x := by kernel_rfl

/-- hayrick/hayrickref11.Put -/
def f230c0 (X : Task → M Value) (L : LoopI) (b0_ : Nat) (b4_ : Nat) (s17_ : (Int) × Unit) (v18_ : Bool) : M (((Int) × Unit) ⊕ ((Unit) ⊕ (Unit))) :=
 M.ite v18_
 (M.guard (decide (0 ≤ s17_.1) && decide (s17_.1 < ((6 : Nat) : Int)))
 (M.load (.cell (.int .u32)) 1 (((Addr.mk b0_ 0 none).add 4).add ((Int.toNat s17_.1) * 1)) fun (x21_ : Int) =>
 M.callS (.tuple []) (X (.call 295 [(.slice (some (Addr.mk b4_ 0 none)) (Int.toNat 112) (Int.toNat 112)), (.int .i64 (IntKind.i64.wrap (6 + (IntKind.i64.wrap (4 * s17_.1))))), (.int .i64 4), (.int .u64 (IntKind.u64.wrap x21_))])) fun (r23_ : Unit) =>
 M.pure (.inl ((IntKind.i64.wrap (s17_.1 + 1)), ()))))
 (M.pure (.inr (.inl (()))))
def f230c1 (X : Task → M Value) (L : LoopI) (b0_ : Nat) (b4_ : Nat) : M (Value) :=
 M.bind (L (σ := (Int) × Unit) (ρ := (Unit) ⊕ (Unit)) (fun s17_ =>
 f230c0 X L b0_ b4_ s17_ (decide (s17_.1 < 6))) (0, ())) <| M.sum (fun (j25_ : Unit) =>
 M.load (.cell (.int .u32)) 1 ((Addr.mk b0_ 0 none).add 10) fun (x26_ : Int) =>
 M.callS (.tuple []) (X (.call 295 [(.slice (some (Addr.mk b4_ 0 none)) (Int.toNat 112) (Int.toNat 112)), (.int .i64 30), (.int .i64 4), (.int .u64 (IntKind.u64.wrap x26_))])) fun (r28_ : Unit) =>
 M.pure (.tuple ⟨[(.slice (some (Addr.mk b4_ 0 none)) (Int.toNat 112) (Int.toNat 112)), (.int .i64 0)]⟩)) (fun _ => M.stuck)
def f230c2 (X : Task → M Value) (L : LoopI) (b0_ : Nat) (b4_ : Nat) : M (Value) :=
 M.load (.cell (.int .i64)) 1 ((Addr.mk b0_ 0 none).add 3) fun (x11_ : Int) =>
 M.callS (.tuple []) (X (.call 295 [(.slice (some (Addr.mk b4_ 0 none)) (Int.toNat 112) (Int.toNat 112)), (.int .i64 3), (.int .i64 1), (.int .u64 (IntKind.u64.wrap x11_))])) fun (r13_ : Unit) =>
 M.load (.cell (.int .i64)) 1 ((Addr.mk b0_ 0 none).add 2) fun (x14_ : Int) =>
 M.callS (.tuple []) (X (.call 295 [(.slice (some (Addr.mk b4_ 0 none)) (Int.toNat 112) (Int.toNat 112)), (.int .i64 4), (.int .i64 2), (.int .u64 (IntKind.u64.wrap x14_))])) fun (r16_ : Unit) =>
 f230c1 X L b0_ b4_
def f230c3 (X : Task → M Value) (L : LoopI) (b0_ : Nat) (b4_ : Nat) : M (Value) :=
 M.load (.cell (.int .i64)) 1 ((Addr.mk b0_ 0 none).add 0) fun (x5_ : Int) =>
 M.callS (.tuple []) (X (.call 295 [(.slice (some (Addr.mk b4_ 0 none)) (Int.toNat 112) (Int.toNat 112)), (.int .i64 0), (.int .i64 2), (.int .u64 (IntKind.u64.wrap x5_))])) fun (r7_ : Unit) =>
 M.load (.cell (.int .i64)) 1 ((Addr.mk b0_ 0 none).add 1) fun (x8_ : Int) =>
 M.callS (.tuple []) (X (.call 295 [(.slice (some (Addr.mk b4_ 0 none)) (Int.toNat 112) (Int.toNat 112)), (.int .i64 2), (.int .i64 1), (.int .u64 (IntKind.u64.wrap x8_))])) fun (r10_ : Unit) =>
 f230c2 X L b0_ b4_
def f230c4 (X : Task → M Value) (L : LoopI) (b0_ : Nat) (x1_ : Int × Int × Int × Int × Int × Int × Int × Int × Int × Int × Int × Unit) : M (Value) :=
 M.callS (.one (.cell .bool)) (X (.call 106 [(.agg ⟨[(.int .i64 x1_.1), (.int .i64 x1_.2.1), (.int .i64 x1_.2.2.1), (.int .i64 x1_.2.2.2.1), (.int .u32 x1_.2.2.2.2.1), (.int .u32 x1_.2.2.2.2.2.1), (.int .u32 x1_.2.2.2.2.2.2.1), (.int .u32 x1_.2.2.2.2.2.2.2.1), (.int .u32 x1_.2.2.2.2.2.2.2.2.1), (.int .u32 x1_.2.2.2.2.2.2.2.2.2.1), (.int .u32 x1_.2.2.2.2.2.2.2.2.2.2.1)]⟩)])) fun (r2_ : Bool) =>
 M.ite (!r2_)
 (M.pure (.tuple ⟨[(.slice none 0 0), (.int .i64 1)]⟩))
 (M.guard (decide (0 ≤ 112) && decide (112 ≤ 112) && decide ((1 : Int) * 112 ≤ 2 ^ 48))
 (M.new (.cells (Row.rep [(.int .u8 0)] (Int.toNat 112)) 5 false (0, 0) false) fun b4_ =>
 f230c3 X L b0_ b4_))
def f230c5 (X : Task → M Value) (L : LoopI) (x : (Int × Int × Int × Int × Int × Int × Int × Int × Int × Int × Int × Unit) × Unit) : M (Value) :=
 M.new (.cells (Row.ofList [(.int .i64 x.1.1), (.int .i64 x.1.2.1), (.int .i64 x.1.2.2.1), (.int .i64 x.1.2.2.2.1), (.int .u32 x.1.2.2.2.2.1), (.int .u32 x.1.2.2.2.2.2.1), (.int .u32 x.1.2.2.2.2.2.2.1), (.int .u32 x.1.2.2.2.2.2.2.2.1), (.int .u32 x.1.2.2.2.2.2.2.2.2.1), (.int .u32 x.1.2.2.2.2.2.2.2.2.2.1), (.int .u32 x.1.2.2.2.2.2.2.2.2.2.2.1)]) 117 false (0, 0) false) fun b0_ =>
 M.load (.agg [(.int .i64), (.int .i64), (.int .i64), (.int .i64), (.int .u32), (.int .u32), (.int .u32), (.int .u32), (.int .u32), (.int .u32), (.int .u32)]) 11 (Addr.mk b0_ 0 none) fun (x1_ : Int × Int × Int × Int × Int × Int × Int × Int × Int × Int × Int × Unit) =>
 f230c4 X L b0_ x1_
def f230 (X : Task → M Value) (L : LoopI) (x : (Int × Int × Int × Int × Int × Int × Int × Int × Int × Int × Int × Unit) × Unit) : M Value :=
 f230c5 X L x

theorem e230 (X : Task → M Value) (L : LoopI) (x : (Int × Int × Int × Int × Int × Int × Int × Int × Int × Int × Int × Unit) × Unit) : evBody CC { call := X, loop := L } 230 (shsInj [(.agg [(.int .i64), (.int .i64), (.int .i64), (.int .i64), (.int .u32), (.int .u32), (.int .u32), (.int .u32), (.int .u32), (.int .u32), (.int .u32)])] x) = f230 X L x := by kernel_rfl

/-- hayrick/hayrickref10.Compare -/
def f231c0 (X : Task → M Value) (L : LoopI) (r0_ : (Option Addr × Nat × Nat)) (r1_ : (Option Addr × Nat × Nat)) (s2_ : (Int) × Unit) (v13_ : Bool) : M (((Int) × Unit) ⊕ ((Unit) ⊕ (((Int) × Unit) ⊕ (Unit)))) :=
 M.ite v13_
 (M.pure (.inr (.inr (.inl ((-1), ())))))
 (M.guard (decide (0 ≤ s2_.1) && decide (s2_.1 < ((r0_.2.1 : Nat) : Int)))
 (M.deref r0_.1 fun a14_ =>
 M.load (.cell (.int .i32)) 1 (a14_.add ((Int.toNat s2_.1) * 1)) fun (x15_ : Int) =>
 M.guard (decide (0 ≤ s2_.1) && decide (s2_.1 < ((r1_.2.1 : Nat) : Int)))
 (M.deref r1_.1 fun a16_ =>
 M.load (.cell (.int .i32)) 1 (a16_.add ((Int.toNat s2_.1) * 1)) fun (x17_ : Int) =>
 M.ite (decide (x15_ > x17_))
 (M.pure (.inr (.inr (.inl (1, ())))))
 (M.pure (.inl ((IntKind.i64.wrap (s2_.1 + 1)), ()))))))
def f231c1 (X : Task → M Value) (L : LoopI) (r0_ : (Option Addr × Nat × Nat)) (r1_ : (Option Addr × Nat × Nat)) (s2_ : (Int) × Unit) (v6_ : Bool) : M (((Int) × Unit) ⊕ ((Unit) ⊕ (((Int) × Unit) ⊕ (Unit)))) :=
 M.ite v6_
 (M.pure (.inr (.inr (.inl ((-1), ())))))
 (M.ite (s2_.1 == ((r1_.2.1 : Nat) : Int))
 (M.pure (.inr (.inr (.inl (1, ())))))
 (M.guard (decide (0 ≤ s2_.1) && decide (s2_.1 < ((r0_.2.1 : Nat) : Int)))
 (M.deref r0_.1 fun a9_ =>
 M.load (.cell (.int .i32)) 1 (a9_.add ((Int.toNat s2_.1) * 1)) fun (x10_ : Int) =>
 M.guard (decide (0 ≤ s2_.1) && decide (s2_.1 < ((r1_.2.1 : Nat) : Int)))
 (M.deref r1_.1 fun a11_ =>
 M.load (.cell (.int .i32)) 1 (a11_.add ((Int.toNat s2_.1) * 1)) fun (x12_ : Int) =>
 f231c0 X L r0_ r1_ s2_ (decide (x10_ < x12_))))))
def f231c2 (X : Task → M Value) (L : LoopI) (x : (ByteArray) × (ByteArray) × Unit) (s25_ : (Int) × Unit) : M (((Int) × Unit) ⊕ ((Unit) ⊕ (((Int) × Unit) ⊕ (Unit)))) :=
 M.guard (decide (0 ≤ s25_.1) && decide (s25_.1 < (x.1.size : Int)))
 (M.guard (decide (0 ≤ s25_.1) && decide (s25_.1 < (x.2.1.size : Int)))
 (M.ite (decide ((byteAt x.1 s25_.1) < (byteAt x.2.1 s25_.1)))
 (M.pure (.inr (.inr (.inl ((-1), ())))))
 (M.guard (decide (0 ≤ s25_.1) && decide (s25_.1 < (x.1.size : Int)))
 (M.guard (decide (0 ≤ s25_.1) && decide (s25_.1 < (x.2.1.size : Int)))
 (M.ite (decide ((byteAt x.1 s25_.1) > (byteAt x.2.1 s25_.1)))
 (M.pure (.inr (.inr (.inl (1, ())))))
 (M.pure (.inl ((IntKind.i64.wrap (s25_.1 + 1)), ()))))))))
def f231c3 (X : Task → M Value) (L : LoopI) (x : (ByteArray) × (ByteArray) × Unit) : M (Value) :=
 M.bind (L (σ := (Int) × Unit) (ρ := (Unit) ⊕ (((Int) × Unit) ⊕ (Unit))) (fun s25_ =>
 M.join (fun (j26_ : (Bool) × Unit) =>
 M.ite j26_.1
 (M.ite (s25_.1 == ((x.1.size : Nat) : Int))
 (M.pure (.inr (.inr (.inl ((-1), ())))))
 (M.ite (s25_.1 == ((x.2.1.size : Nat) : Int))
 (M.pure (.inr (.inr (.inl (1, ())))))
 (f231c2 X L x s25_)))
 (M.pure (.inr (.inl (()))))) fun go27_ =>
 M.ite (decide (s25_.1 < ((x.1.size : Nat) : Int)))
 (go27_ (true, ()))
 (go27_ ((decide (s25_.1 < ((x.2.1.size : Nat) : Int))), ()))) (0, ())) <| M.sum (fun (j43_ : Unit) =>
 M.pure (.int .i64 0)) (M.sum (fun (j44_ : (Int) × Unit) =>
 M.pure (.int .i64 j44_.1)) (fun _ => M.stuck))
def f231c4 (X : Task → M Value) (L : LoopI) (x : (ByteArray) × (ByteArray) × Unit) (r0_ : (Option Addr × Nat × Nat)) : M (Value) :=
 M.callS (.one (.cell .slice)) (X (.call 296 [(.string x.2.1)])) fun (r1_ : (Option Addr × Nat × Nat)) =>
 M.bind (L (σ := (Int) × Unit) (ρ := (Unit) ⊕ (((Int) × Unit) ⊕ (Unit))) (fun s2_ =>
 M.join (fun (j3_ : (Bool) × Unit) =>
 M.ite j3_.1
 (f231c1 X L r0_ r1_ s2_ (s2_.1 == ((r0_.2.1 : Nat) : Int)))
 (M.pure (.inr (.inl (()))))) fun go4_ =>
 M.ite (decide (s2_.1 < ((r0_.2.1 : Nat) : Int)))
 (go4_ (true, ()))
 (go4_ ((decide (s2_.1 < ((r1_.2.1 : Nat) : Int))), ()))) (0, ())) <| M.sum (fun (j24_ : Unit) =>
 f231c3 X L x) (M.sum (fun (j45_ : (Int) × Unit) =>
 M.pure (.int .i64 j45_.1)) (fun _ => M.stuck))
def f231 (X : Task → M Value) (L : LoopI) (x : (ByteArray) × (ByteArray) × Unit) : M Value :=
 M.callS (.one (.cell .slice)) (X (.call 296 [(.string x.1)])) fun (r0_ : (Option Addr × Nat × Nat)) =>
 f231c4 X L x r0_

theorem e231 (X : Task → M Value) (L : LoopI) (x : (ByteArray) × (ByteArray) × Unit) : evBody CC { call := X, loop := L } 231 (shsInj [(.cell .string), (.cell .string)] x) = f231 X L x := by kernel_rfl

/-- (*hayrick/store.Store).Pointers -/
def f232c0 (X : Task → M Value) (L : LoopI) (j6_ : ((Option Addr × Nat × Nat)) × Unit) (x8_ : Int × Int × Int × Int × Int × Int × Int × Int × Int × Int × Int × Unit) : M (Value) :=
 M.callS (.tuple [(.cell .slice), (.cell (.int .i64))]) (X (.call 298 [(.agg ⟨[(.int .i64 x8_.1), (.int .i64 x8_.2.1), (.int .i64 x8_.2.2.1), (.int .i64 x8_.2.2.2.1), (.int .u32 x8_.2.2.2.2.1), (.int .u32 x8_.2.2.2.2.2.1), (.int .u32 x8_.2.2.2.2.2.2.1), (.int .u32 x8_.2.2.2.2.2.2.2.1), (.int .u32 x8_.2.2.2.2.2.2.2.2.1), (.int .u32 x8_.2.2.2.2.2.2.2.2.2.1), (.int .u32 x8_.2.2.2.2.2.2.2.2.2.2.1)]⟩), (.slice j6_.1.1 j6_.1.2.1 j6_.1.2.2)])) fun (r9_ : ((Option Addr × Nat × Nat)) × (Int) × Unit) =>
 M.pure (.tuple ⟨[(.slice r9_.1.1 r9_.1.2.1 r9_.1.2.2), (.int .i64 r9_.2.1)]⟩)
def f232c1 (X : Task → M Value) (L : LoopI) (go7_ : (((Option Addr × Nat × Nat)) × Unit) → M (Value)) (x13_ : Option Addr) (x14_ : Int) : M (Value) :=
 M.callS (.tuple [(.cell .slice), (.cell (.int .i64))]) (X (.call 174 [(.pointer x13_), (.int .u32 x14_)])) fun (r15_ : ((Option Addr × Nat × Nat)) × (Int) × Unit) =>
 M.ite (!(r15_.2.1 == 0))
 (M.pure (.tuple ⟨[(.slice none 0 0), (.int .i64 r15_.2.1)]⟩))
 (M.callS (.tuple [(.cell .slice), (.cell (.int .i64))]) (X (.call 297 [(.slice r15_.1.1 r15_.1.2.1 r15_.1.2.2)])) fun (r17_ : ((Option Addr × Nat × Nat)) × (Int) × Unit) =>
 M.ite (!(r17_.2.1 == 0))
 (M.pure (.tuple ⟨[(.slice none 0 0), (.int .i64 r17_.2.1)]⟩))
 (go7_ (r17_.1, ())))
def f232c2 (X : Task → M Value) (L : LoopI) (x : (Option Addr) × (Int × Int × Int × Int × Int × Int × Int × Int × Int × Int × Int × Unit) × Unit) (b0_ : Nat) : M (Value) :=
 M.join (fun (j6_ : ((Option Addr × Nat × Nat)) × Unit) =>
 M.load (.agg [(.int .i64), (.int .i64), (.int .i64), (.int .i64), (.int .u32), (.int .u32), (.int .u32), (.int .u32), (.int .u32), (.int .u32), (.int .u32)]) 11 (Addr.mk b0_ 0 none) fun (x8_ : Int × Int × Int × Int × Int × Int × Int × Int × Int × Int × Int × Unit) =>
 f232c0 X L j6_ x8_) fun go7_ =>
 M.load (.cell (.int .u32)) 1 ((Addr.mk b0_ 0 none).add 10) fun (x10_ : Int) =>
 M.ite (!(x10_ == 0))
 (M.deref x.1 fun a12_ =>
 M.load (.cell .ptr) 1 (a12_.add 0) fun (x13_ : Option Addr) =>
 M.load (.cell (.int .u32)) 1 ((Addr.mk b0_ 0 none).add 10) fun (x14_ : Int) =>
 f232c1 X L go7_ x13_ x14_)
 (go7_ ((none, 0, 0), ()))
def f232c3 (X : Task → M Value) (L : LoopI) (x : (Option Addr) × (Int × Int × Int × Int × Int × Int × Int × Int × Int × Int × Int × Unit) × Unit) (b0_ : Nat) : M (Value) :=
 M.load (.agg [(.int .i64), (.int .i64), (.int .i64), (.int .i64), (.int .u32), (.int .u32), (.int .u32), (.int .u32), (.int .u32), (.int .u32), (.int .u32)]) 11 (Addr.mk b0_ 0 none) fun (x3_ : Int × Int × Int × Int × Int × Int × Int × Int × Int × Int × Int × Unit) =>
 M.callS (.one (.cell .bool)) (X (.call 102 [(.agg ⟨[(.int .i64 x3_.1), (.int .i64 x3_.2.1), (.int .i64 x3_.2.2.1), (.int .i64 x3_.2.2.2.1), (.int .u32 x3_.2.2.2.2.1), (.int .u32 x3_.2.2.2.2.2.1), (.int .u32 x3_.2.2.2.2.2.2.1), (.int .u32 x3_.2.2.2.2.2.2.2.1), (.int .u32 x3_.2.2.2.2.2.2.2.2.1), (.int .u32 x3_.2.2.2.2.2.2.2.2.2.1), (.int .u32 x3_.2.2.2.2.2.2.2.2.2.2.1)]⟩)])) fun (r4_ : Bool) =>
 M.ite (!r4_)
 (M.pure (.tuple ⟨[(.slice none 0 0), (.int .i64 1)]⟩))
 (f232c2 X L x b0_)
def f232c4 (X : Task → M Value) (L : LoopI) (x : (Option Addr) × (Int × Int × Int × Int × Int × Int × Int × Int × Int × Int × Int × Unit) × Unit) : M (Value) :=
 M.new (.cells (Row.ofList [(.int .i64 x.2.1.1), (.int .i64 x.2.1.2.1), (.int .i64 x.2.1.2.2.1), (.int .i64 x.2.1.2.2.2.1), (.int .u32 x.2.1.2.2.2.2.1), (.int .u32 x.2.1.2.2.2.2.2.1), (.int .u32 x.2.1.2.2.2.2.2.2.1), (.int .u32 x.2.1.2.2.2.2.2.2.2.1), (.int .u32 x.2.1.2.2.2.2.2.2.2.2.1), (.int .u32 x.2.1.2.2.2.2.2.2.2.2.2.1), (.int .u32 x.2.1.2.2.2.2.2.2.2.2.2.2.1)]) 117 false (0, 0) false) fun b0_ =>
 M.callS (.one (.cell (.int .i64))) (X (.call 132 [(.pointer x.1), (.int .i64 1)])) fun (r1_ : Int) =>
 M.ite (!(r1_ == 0))
 (M.pure (.tuple ⟨[(.slice none 0 0), (.int .i64 r1_)]⟩))
 (f232c3 X L x b0_)
def f232 (X : Task → M Value) (L : LoopI) (x : (Option Addr) × (Int × Int × Int × Int × Int × Int × Int × Int × Int × Int × Int × Unit) × Unit) : M Value :=
 f232c4 X L x

theorem e232 (X : Task → M Value) (L : LoopI) (x : (Option Addr) × (Int × Int × Int × Int × Int × Int × Int × Int × Int × Int × Int × Unit) × Unit) : evBody CC { call := X, loop := L } 232 (shsInj [(.cell .ptr), (.agg [(.int .i64), (.int .i64), (.int .i64), (.int .i64), (.int .u32), (.int .u32), (.int .u32), (.int .u32), (.int .u32), (.int .u32), (.int .u32)])] x) = f232 X L x := by kernel_rfl

/-- slices.Chunk[[]byte,byte]$1 -/
def f233c0 (X : Task → M Value) (L : LoopI) (x : (Value) × (Option Addr) × (Option Addr) × Unit) (s0_ : (Int) × Unit) (x13_ : (Option Addr × Nat × Nat)) (v14_ : Int) (v15_ : Int) : M (((Int) × Unit) ⊕ ((Unit) ⊕ ((Unit) ⊕ (Unit)))) :=
 M.guard (decide (0 ≤ v15_) && decide (v15_ ≤ ((x13_.2.2 : Nat) : Int)))
 (let v16_ : Nat := (Int.toNat v15_)
 M.guard (decide (0 ≤ v14_) && decide (v14_ ≤ ((v16_ : Nat) : Int)))
 (let v17_ : Nat := (Int.toNat v14_)
 M.guard (decide (0 ≤ s0_.1) && decide (s0_.1 ≤ ((v17_ : Nat) : Int)))
 (let v18_ : Nat := (Int.toNat s0_.1)
 callV CC ⟨X, L⟩ x.1 [(.slice (x13_.1.map (·.add (v18_ * 1))) (v17_ - v18_) (v16_ - v18_))] fun w20_ => M.need (RSh.prj (.one (.cell .bool)) w20_) fun (r19_ : Bool) =>
 M.ite (!r19_)
 (M.pure (.inr (.inr (.inl (())))))
 (M.deref x.2.2.1 fun a22_ =>
 M.load (.cell (.int .i64)) 1 a22_ fun (x23_ : Int) =>
 M.pure (.inl ((IntKind.i64.wrap (s0_.1 + x23_)), ()))))))
def f233c1 (X : Task → M Value) (L : LoopI) (x : (Value) × (Option Addr) × (Option Addr) × Unit) (s0_ : (Int) × Unit) : M (((Int) × Unit) ⊕ ((Unit) ⊕ ((Unit) ⊕ (Unit)))) :=
 M.deref x.2.2.1 fun a5_ =>
 M.load (.cell (.int .i64)) 1 a5_ fun (x6_ : Int) =>
 M.deref x.2.1 fun a7_ =>
 M.load (.cell .slice) 1 a7_ fun (x8_ : (Option Addr × Nat × Nat)) =>
 M.guard (decide (0 ≤ s0_.1) && decide (s0_.1 ≤ ((x8_.2.1 : Nat) : Int)))
 (let v10_ : Int := (((x8_.2.1 - (Int.toNat s0_.1)) : Nat) : Int)
 let v11_ : Int := (if v10_ < x6_ then v10_ else x6_)
 M.deref x.2.1 fun a12_ =>
 M.load (.cell .slice) 1 a12_ fun (x13_ : (Option Addr × Nat × Nat)) =>
 f233c0 X L x s0_ x13_ (IntKind.i64.wrap (s0_.1 + v11_)) (IntKind.i64.wrap (s0_.1 + v11_)))
def f233 (X : Task → M Value) (L : LoopI) (x : (Value) × (Option Addr) × (Option Addr) × Unit) : M Value :=
 M.bind (L (σ := (Int) × Unit) (ρ := (Unit) ⊕ ((Unit) ⊕ (Unit))) (fun s0_ =>
 M.deref x.2.1 fun a1_ =>
 M.load (.cell .slice) 1 a1_ fun (x2_ : (Option Addr × Nat × Nat)) =>
 M.ite (decide (s0_.1 < ((x2_.2.1 : Nat) : Int)))
 (f233c1 X L x s0_)
 (M.pure (.inr (.inl (()))))) (0, ())) <| M.sum (fun (j25_ : Unit) =>
 M.pure (.tuple ⟨[]⟩)) (M.sum (fun (j26_ : Unit) =>
 M.pure (.tuple ⟨[]⟩)) (fun _ => M.stuck))

theorem e233 (X : Task → M Value) (L : LoopI) (x : (Value) × (Option Addr) × (Option Addr) × Unit) : evBody CC { call := X, loop := L } 233 (shsInj [(.cell .val), (.cell .ptr), (.cell .ptr)] x) = f233 X L x := by kernel_rfl

/-- (*hayrick/logs.Log).Block$1 -/
def f234c0 (X : Task → M Value) (L : LoopI) (x : (Option Addr) × (Option Addr) × (Option Addr) × Unit) (r7_ : (Int) × (Int) × (Int) × Unit) (a14_ : Addr) : M (Value) :=
 M.load (.cell .slice) 1 (a14_.add 6) fun (x15_ : (Option Addr × Nat × Nat)) =>
 M.guard (decide (0 ≤ r7_.2.1) && decide (r7_.2.1 < ((x15_.2.1 : Nat) : Int)))
 (M.deref x15_.1 fun a16_ =>
 M.load (.cell .slice) 1 (a16_.add ((Int.toNat r7_.2.1) * 1)) fun (x17_ : (Option Addr × Nat × Nat)) =>
 M.callS (.one (.cell .slice)) (X (.call 236 [(.slice x17_.1 x17_.2.1 x17_.2.2)])) fun (r18_ : (Option Addr × Nat × Nat)) =>
 M.deref x.2.2.1 fun a19_ =>
 M.store a19_ [(.slice r18_.1 r18_.2.1 r18_.2.2)]
 (M.pure (.int .i64 0)))
def f234c1 (X : Task → M Value) (L : LoopI) (x : (Option Addr) × (Option Addr) × (Option Addr) × Unit) (r24_ : ((Option Addr × Nat × Nat)) × (Int) × Unit) (v31_ : Int) : M (Value) :=
 let v32_ : Int := IntKind.i64.wrap (v31_ + 112)
 M.guard (decide (0 ≤ v32_) && decide (v32_ ≤ ((r24_.1.2.2 : Nat) : Int)))
 (let v33_ : Nat := (Int.toNat v32_)
 M.guard (decide (0 ≤ v31_) && decide (v31_ ≤ ((v33_ : Nat) : Int)))
 (let v34_ : Nat := (Int.toNat v31_)
 M.callS (.one (.cell .slice)) (X (.call 236 [(.slice (r24_.1.1.map (·.add (v34_ * 1))) (v33_ - v34_) (r24_.1.2.2 - v34_))])) fun (r35_ : (Option Addr × Nat × Nat)) =>
 M.deref x.2.2.1 fun a36_ =>
 M.store a36_ [(.slice r35_.1 r35_.2.1 r35_.2.2)]
 (M.pure (.int .i64 0))))
def f234c2 (X : Task → M Value) (L : LoopI) (x : (Option Addr) × (Option Addr) × (Option Addr) × Unit) (r7_ : (Int) × (Int) × (Int) × Unit) (x23_ : Option Addr) : M (Value) :=
 M.callS (.tuple [(.cell .slice), (.cell (.int .i64))]) (X (.call 237 [(.pointer x23_), (.int .i64 r7_.1)])) fun (r24_ : ((Option Addr × Nat × Nat)) × (Int) × Unit) =>
 M.ite (!(r24_.2.1 == 0))
 (M.pure (.int .i64 r24_.2.1))
 (M.deref x.1 fun a26_ =>
 M.load (.cell .ptr) 1 a26_ fun (x27_ : Option Addr) =>
 M.callS (.one (.cell (.int .i64))) (X (.call 201 [(.pointer x27_)])) fun (r28_ : Int) =>
 M.callS (.one (.cell (.int .i64))) (X (.call 238 [(.int .i64 r28_)])) fun (r29_ : Int) =>
 f234c1 X L x r24_ (IntKind.i64.wrap ((IntKind.i64.wrap (r29_ + r7_.2.1)) * 112)))
def f234c3 (X : Task → M Value) (L : LoopI) (x : (Option Addr) × (Option Addr) × (Option Addr) × Unit) (r7_ : (Int) × (Int) × (Int) × Unit) (go21_ : ((Bool) × Unit) → M (Value)) (x38_ : Option Addr) : M (Value) :=
 M.deref x38_ fun a39_ =>
 M.load (.cell (.int .i64)) 1 (a39_.add 4) fun (x40_ : Int) =>
 M.ite (r7_.1 == x40_)
 (go21_ (true, ()))
 (M.deref x.1 fun a42_ =>
 M.load (.cell .ptr) 1 a42_ fun (x43_ : Option Addr) =>
 M.deref x43_ fun a44_ =>
 M.load (.cell .slice) 1 (a44_.add 2) fun (x45_ : (Option Addr × Nat × Nat)) =>
 M.guard (decide (0 ≤ r7_.1) && decide (r7_.1 < ((x45_.2.1 : Nat) : Int)))
 (M.deref x45_.1 fun a46_ =>
 M.load (.cell (.int .u64)) 1 (a46_.add ((Int.toNat r7_.1) * 1)) fun (x47_ : Int) =>
 go21_ ((x47_ == 0), ())))
def f234c4 (X : Task → M Value) (L : LoopI) (x : (Option Addr) × (Option Addr) × (Option Addr) × Unit) (r7_ : (Int) × (Int) × (Int) × Unit) : M (Value) :=
 M.join (fun (j10_ : (Bool) × Unit) =>
 M.ite j10_.1
 (M.deref x.1 fun a12_ =>
 M.load (.cell .ptr) 1 a12_ fun (x13_ : Option Addr) =>
 M.deref x13_ fun a14_ =>
 f234c0 X L x r7_ a14_)
 (M.join (fun (j20_ : (Bool) × Unit) =>
 M.ite j20_.1
 (M.pure (.int .i64 6))
 (M.deref x.1 fun a22_ =>
 M.load (.cell .ptr) 1 a22_ fun (x23_ : Option Addr) =>
 f234c2 X L x r7_ x23_)) fun go21_ =>
 M.deref x.1 fun a37_ =>
 M.load (.cell .ptr) 1 a37_ fun (x38_ : Option Addr) =>
 f234c3 X L x r7_ go21_ x38_)) fun go11_ =>
 M.deref x.1 fun a49_ =>
 M.load (.cell .ptr) 1 a49_ fun (x50_ : Option Addr) =>
 M.deref x50_ fun a51_ =>
 M.load (.cell (.int .i64)) 1 (a51_.add 4) fun (x52_ : Int) =>
 M.ite (r7_.1 == x52_)
 (M.deref x.1 fun a54_ =>
 M.load (.cell .ptr) 1 a54_ fun (x55_ : Option Addr) =>
 M.deref x55_ fun a56_ =>
 M.load (.cell .slice) 1 (a56_.add 6) fun (x57_ : (Option Addr × Nat × Nat)) =>
 go11_ ((decide (r7_.2.1 < ((x57_.2.1 : Nat) : Int))), ()))
 (go11_ (false, ()))
def f234c5 (X : Task → M Value) (L : LoopI) (x : (Option Addr) × (Option Addr) × (Option Addr) × Unit) (x3_ : Int) (r4_ : Int) : M (Value) :=
 M.deref x.2.1 fun a5_ =>
 M.load (.cell (.int .u32)) 1 a5_ fun (x6_ : Int) => cond (veqv (.int .u32 x6_) (.int .u32 x3_)) (M.callS (.tuple [(.cell (.int .i64)), (.cell (.int .i64)), (.cell (.int .i64))]) (X (.call 235 [(.int .i64 r4_), (.int .u32 x3_)])) fun (r7_ : (Int) × (Int) × (Int) × Unit) =>
 M.join (fun (j8_ : (Bool) × Unit) =>
 M.ite j8_.1
 (M.pure (.int .i64 6))
 (f234c4 X L x r7_)) fun go9_ =>
 M.ite (!(r7_.2.2.1 == 0))
 (go9_ (true, ()))
 (M.deref x.1 fun a61_ =>
 M.load (.cell .ptr) 1 a61_ fun (x62_ : Option Addr) =>
 M.deref x62_ fun a63_ =>
 M.load (.cell .slice) 1 (a63_.add 2) fun (x64_ : (Option Addr × Nat × Nat)) =>
 go9_ ((decide (r7_.1 ≥ ((x64_.2.1 : Nat) : Int))), ()))) M.stuck
def f234 (X : Task → M Value) (L : LoopI) (x : (Option Addr) × (Option Addr) × (Option Addr) × Unit) : M Value :=
 M.deref x.1 fun a0_ =>
 M.load (.cell .ptr) 1 a0_ fun (x1_ : Option Addr) =>
 M.deref x.2.1 fun a2_ =>
 M.load (.cell (.int .u32)) 1 a2_ fun (x3_ : Int) =>
 M.callS (.one (.cell (.int .i64))) (X (.call 201 [(.pointer x1_)])) fun (r4_ : Int) =>
 f234c5 X L x x3_ r4_

theorem e234 (X : Task → M Value) (L : LoopI) (x : (Option Addr) × (Option Addr) × (Option Addr) × Unit) : evBody CC { call := X, loop := L } 234 (shsInj [(.cell .ptr), (.cell .ptr), (.cell .ptr)] x) = f234 X L x := by kernel_rfl

/-- hayrick/summary.Where -/
def f235c0 (X : Task → M Value) (L : LoopI) (x : (Int) × (Int) × Unit) (v6_ : Int) (v8_ : Int) (v9_ : Int) : M (Value) :=
 M.guard (!(decide (v9_ = 0)))
 (let v10_ : Int := (v8_ : Int).tmod v9_
 M.join (fun (j11_ : (Bool) × Unit) =>
 M.ite j11_.1
 (M.pure (.tuple ⟨[(.int .i64 0), (.int .i64 0), (.int .i64 6)]⟩))
 (M.callS (.one (.cell (.int .i64))) (X (.call 238 [(.int .i64 x.1)])) fun (r13_ : Int) =>
 M.pure (.tuple ⟨[(.int .i64 v6_), (.int .i64 (IntKind.i64.wrap (v10_ - r13_))), (.int .i64 0)]⟩))) fun go12_ =>
 M.ite (decide (v6_ ≥ 128))
 (go12_ (true, ()))
 (M.callS (.one (.cell (.int .i64))) (X (.call 238 [(.int .i64 x.1)])) fun (r16_ : Int) =>
 go12_ ((decide (v10_ < r16_)), ())))
def f235c1 (X : Task → M Value) (L : LoopI) (x : (Int) × (Int) × Unit) : M (Value) :=
 M.callS (.one (.cell .bool)) (X (.call 261 [(.int .i64 x.1)])) fun (r0_ : Bool) =>
 M.ite (!r0_)
 (M.pure (.tuple ⟨[(.int .i64 0), (.int .i64 0), (.int .i64 1)]⟩))
 (M.ite (x.2.1 == 0)
 (M.pure (.tuple ⟨[(.int .i64 0), (.int .i64 0), (.int .i64 6)]⟩))
 (let v5_ : Int := IntKind.i64.wrap (4 * x.1)
 M.guard (!(decide (v5_ = 0)))
 (f235c0 X L x (IntKind.i64.wrap (((IntKind.i64.wrap (IntKind.u32.wrap (x.2.1 - 1))) : Int).tdiv v5_)) (IntKind.i64.wrap (IntKind.u32.wrap (x.2.1 - 1))) (IntKind.i64.wrap (4 * x.1)))))
def f235 (X : Task → M Value) (L : LoopI) (x : (Int) × (Int) × Unit) : M Value :=
 f235c1 X L x

theorem e235 (X : Task → M Value) (L : LoopI) (x : (Int) × (Int) × Unit) : evBody CC { call := X, loop := L } 235 (shsInj [(.cell (.int .i64)), (.cell (.int .u32))] x) = f235 X L x := by kernel_rfl

/-- bytes.Clone -/
def f236 (X : Task → M Value) (L : LoopI) (x : ((Option Addr × Nat × Nat)) × Unit) : M Value :=
 M.ite x.1.1.isNone
 (M.pure (.slice none 0 0))
 (M.new (.cells (Row.ofList []) 5 false (0, 0) false) fun b0_ =>
 M.append 5 1 1 (some (Addr.mk b0_ 0 none)) 0 0 (.slice x.1.1 x.1.2.1 x.1.2.2) fun a1_ n2_ c3_ =>
 M.pure (.slice a1_ n2_ c3_))

theorem e236 (X : Task → M Value) (L : LoopI) (x : ((Option Addr × Nat × Nat)) × Unit) : evBody CC { call := X, loop := L } 236 (shsInj [(.cell .slice)] x) = f236 X L x := by kernel_rfl

/-- (*hayrick/logs.Log).segment -/
def f237c0 (X : Task → M Value) (L : LoopI) (x : (Option Addr) × (Int) × Unit) (x1_ : Option Addr) (a2_ : Addr) : M (Value) :=
 M.load (.cell .slice) 1 (a2_.add 2) fun (x3_ : (Option Addr × Nat × Nat)) =>
 M.guard (decide (0 ≤ x.2.1) && decide (x.2.1 < ((x3_.2.1 : Nat) : Int)))
 (M.deref x3_.1 fun a4_ =>
 M.load (.cell (.int .u64)) 1 (a4_.add ((Int.toNat x.2.1) * 1)) fun (x5_ : Int) =>
 M.callS (.tuple [(.cell .slice), (.cell (.int .i64))]) (X (.call 299 [(.pointer x1_), (.int .i64 x.2.1), (.int .u64 x5_)])) fun (r6_ : ((Option Addr × Nat × Nat)) × (Int) × Unit) =>
 M.pure (.tuple ⟨[(.slice r6_.1.1 r6_.1.2.1 r6_.1.2.2), (.int .i64 r6_.2.1)]⟩))
def f237 (X : Task → M Value) (L : LoopI) (x : (Option Addr) × (Int) × Unit) : M Value :=
 M.deref x.1 fun a0_ =>
 M.load (.cell .ptr) 1 (a0_.add 0) fun (x1_ : Option Addr) =>
 M.deref x.1 fun a2_ =>
 f237c0 X L x x1_ a2_

theorem e237 (X : Task → M Value) (L : LoopI) (x : (Option Addr) × (Int) × Unit) : evBody CC { call := X, loop := L } 237 (shsInj [(.cell .ptr), (.cell (.int .i64))] x) = f237 X L x := by kernel_rfl

/-- hayrick/summary.Sum -/
def f238 (X : Task → M Value) (L : LoopI) (x : (Int) × Unit) : M Value :=
 M.callS (.one (.cell .bool)) (X (.call 261 [(.int .i64 x.1)])) fun (r0_ : Bool) =>
 M.ite (!r0_)
 (M.pure (.int .i64 0))
 (M.guard (!(decide (15 = 0)))
 (M.pure (.int .i64 (IntKind.i64.wrap (((IntKind.i64.wrap ((IntKind.i64.wrap (4 * x.1)) + 14)) : Int).tdiv 15)))))

theorem e238 (X : Task → M Value) (L : LoopI) (x : (Int) × Unit) : evBody CC { call := X, loop := L } 238 (shsInj [(.cell (.int .i64))] x) = f238 X L x := by kernel_rfl

/-- hayrick/inode.Take$1 -/
def f239c0 (X : Task → M Value) (L : LoopI) (x : (Int) × (Option Addr) × Unit) (x1_ : (Option Addr × Nat × Nat)) (v2_ : Nat) (v3_ : Int) : M (Value) :=
 M.bind (L (σ := (Int) × (Int) × Unit) (ρ := ((Int) × Unit) ⊕ (Unit)) (fun s4_ =>
 M.ite (decide (s4_.2.1 < v3_))
 (M.guard (decide (0 ≤ s4_.2.1) && decide (s4_.2.1 < (((v2_ - 0) : Nat) : Int)))
 (M.deref (x1_.1.map (·.add (0 * 1))) fun a6_ =>
 M.load (.cell (.int .u8)) 1 (a6_.add ((Int.toNat s4_.2.1) * 1)) fun (x7_ : Int) =>
 M.guard (decide (0 ≤ 8))
 (M.pure (.inl ((bitsV .or .i64 (IntKind.i64.wrap (s4_.1 * 2 ^ (min (Int.toNat 8) IntKind.i64.bits))) (IntKind.i64.wrap x7_)), (IntKind.i64.wrap (s4_.2.1 + 1)), ())))))
 (M.pure (.inr (.inl (s4_.1, ()))))) (0, 0, ())) <| M.sum (fun (j12_ : (Int) × Unit) =>
 M.deref x.2.1 fun a13_ =>
 M.load (.cell .slice) 1 a13_ fun (x14_ : (Option Addr × Nat × Nat)) =>
 M.guard (decide (0 ≤ x.1) && decide (x.1 ≤ ((x14_.2.1 : Nat) : Int)))
 (let v15_ : Nat := (Int.toNat x.1)
 M.deref x.2.1 fun a16_ =>
 M.store a16_ [(.slice (x14_.1.map (·.add (v15_ * 1))) (x14_.2.1 - v15_) (x14_.2.2 - v15_))]
 (M.pure (.int .i64 j12_.1)))) (fun _ => M.stuck)
def f239 (X : Task → M Value) (L : LoopI) (x : (Int) × (Option Addr) × Unit) : M Value :=
 M.deref x.2.1 fun a0_ =>
 M.load (.cell .slice) 1 a0_ fun (x1_ : (Option Addr × Nat × Nat)) =>
 M.guard (decide (0 ≤ x.1) && decide (x.1 ≤ ((x1_.2.2 : Nat) : Int)))
 (let v2_ : Nat := (Int.toNat x.1)
 f239c0 X L x x1_ v2_ (((v2_ - 0) : Nat) : Int))

theorem e239 (X : Task → M Value) (L : LoopI) (x : (Int) × (Option Addr) × Unit) : evBody CC { call := X, loop := L } 239 (shsInj [(.cell (.int .i64)), (.cell .ptr)] x) = f239 X L x := by kernel_rfl

/-- hayrick/inode.Put -/
def f240c0 (X : Task → M Value) (L : LoopI) (b11_ : Nat) (s14_ : ((Option Addr × Nat × Nat)) × (Int) × Unit) : M ((((Option Addr × Nat × Nat)) × (Int) × Unit) ⊕ ((((Option Addr × Nat × Nat)) × Unit) ⊕ (Unit))) :=
 M.load (.cell (.int .u32)) 1 ((Addr.mk b11_ 0 none).add 0) fun (x16_ : Int) =>
 let v17_ : Int := IntKind.i64.wrap (8 * s14_.2.1)
 M.guard (decide (0 ≤ v17_))
 (M.new (.cells (Row.ofList [(.int .u8 (IntKind.u8.wrap (((x16_ : Int)).fdiv (2 ^ (min (Int.toNat v17_) IntKind.u32.bits)))))]) 5 false (0, 0) false) fun b20_ =>
 M.append 5 1 1 s14_.1.1 s14_.1.2.1 s14_.1.2.2 (.slice (some (Addr.mk b20_ 0 none)) 1 1) fun a21_ n22_ c23_ =>
 M.pure (.inl ((a21_, n22_, c23_), (IntKind.i64.wrap (s14_.2.1 - 1)), ())))
def f240c1 (X : Task → M Value) (L : LoopI) (s7_ : ((Option Addr × Nat × Nat)) × (Int) × Unit) (v10_ : List Value) (b11_ : Nat) : M ((((Option Addr × Nat × Nat)) × (Int) × Unit) ⊕ ((((Option Addr × Nat × Nat)) × Unit) ⊕ (Unit))) :=
 cond (Nat.beq v10_.length 2) (M.store (Addr.mk b11_ 0 none) v10_
 (M.load (.cell (.int .i64)) 1 ((Addr.mk b11_ 0 none).add 1) fun (x12_ : Int) =>
 M.bind (L (σ := ((Option Addr × Nat × Nat)) × (Int) × Unit) (ρ := (((Option Addr × Nat × Nat)) × Unit) ⊕ (Unit)) (fun s14_ =>
 M.ite (decide (s14_.2.1 ≥ 0))
 (f240c0 X L b11_ s14_)
 (M.pure (.inr (.inl (s14_.1, ()))))) (s7_.1, (IntKind.i64.wrap (x12_ - 1)), ())) <| M.sum (fun (j25_ : ((Option Addr × Nat × Nat)) × Unit) =>
 M.pure (.inl (j25_.1, (IntKind.i64.wrap (s7_.2.1 + 1)), ()))) (fun _ => M.stuck))) M.stuck
def f240c2 (X : Task → M Value) (L : LoopI) (r6_ : Int × Int × Int × Int × Int × Int × Int × Int × Int × Int × Int × Int × Int × Int × Int × Int × Int × Int × Int × Int × Int × Int × Unit) (s7_ : ((Option Addr × Nat × Nat)) × (Int) × Unit) : M ((((Option Addr × Nat × Nat)) × (Int) × Unit) ⊕ ((((Option Addr × Nat × Nat)) × Unit) ⊕ (Unit))) :=
 M.guard (decide (0 ≤ s7_.2.1) && decide (s7_.2.1 < ((11 : Nat) : Int)))
 (let v9_ : List Value := [(.int .u32 r6_.1), (.int .i64 r6_.2.1), (.int .u32 r6_.2.2.1), (.int .i64 r6_.2.2.2.1), (.int .u32 r6_.2.2.2.2.1), (.int .i64 r6_.2.2.2.2.2.1), (.int .u32 r6_.2.2.2.2.2.2.1), (.int .i64 r6_.2.2.2.2.2.2.2.1), (.int .u32 r6_.2.2.2.2.2.2.2.2.1), (.int .i64 r6_.2.2.2.2.2.2.2.2.2.1), (.int .u32 r6_.2.2.2.2.2.2.2.2.2.2.1), (.int .i64 r6_.2.2.2.2.2.2.2.2.2.2.2.1), (.int .u32 r6_.2.2.2.2.2.2.2.2.2.2.2.2.1), (.int .i64 r6_.2.2.2.2.2.2.2.2.2.2.2.2.2.1), (.int .u32 r6_.2.2.2.2.2.2.2.2.2.2.2.2.2.2.1), (.int .i64 r6_.2.2.2.2.2.2.2.2.2.2.2.2.2.2.2.1), (.int .u32 r6_.2.2.2.2.2.2.2.2.2.2.2.2.2.2.2.2.1), (.int .i64 r6_.2.2.2.2.2.2.2.2.2.2.2.2.2.2.2.2.2.1), (.int .u32 r6_.2.2.2.2.2.2.2.2.2.2.2.2.2.2.2.2.2.2.1), (.int .i64 r6_.2.2.2.2.2.2.2.2.2.2.2.2.2.2.2.2.2.2.2.1), (.int .u32 r6_.2.2.2.2.2.2.2.2.2.2.2.2.2.2.2.2.2.2.2.2.1), (.int .i64 r6_.2.2.2.2.2.2.2.2.2.2.2.2.2.2.2.2.2.2.2.2.2.1)]
 cond (Nat.ble (((Int.toNat s7_.2.1) * 2) + 2) v9_.length) (M.new (.cells (Row.ofList [(.int .u32 0), (.int .i64 0)]) 414 false (0, 0) false) fun b11_ =>
 f240c1 X L s7_ ((v9_.drop ((Int.toNat s7_.2.1) * 2)).take 2) b11_) M.stuck)
def f240c3 (X : Task → M Value) (L : LoopI) (b4_ : Nat) (r6_ : Int × Int × Int × Int × Int × Int × Int × Int × Int × Int × Int × Int × Int × Int × Int × Int × Int × Int × Int × Int × Int × Int × Unit) : M (Value) :=
 M.bind (L (σ := ((Option Addr × Nat × Nat)) × (Int) × Unit) (ρ := (((Option Addr × Nat × Nat)) × Unit) ⊕ (Unit)) (fun s7_ =>
 M.ite (decide (s7_.2.1 < 11))
 (f240c2 X L r6_ s7_)
 (M.pure (.inr (.inl (s7_.1, ()))))) (((some (Addr.mk b4_ 0 none)), (Int.toNat 0), (Int.toNat 112)), 0, ())) <| M.sum (fun (j27_ : ((Option Addr × Nat × Nat)) × Unit) =>
 M.guard (decide (0 ≤ 112) && decide (112 ≤ ((j27_.1.2.2 : Nat) : Int)))
 (M.pure (.tuple ⟨[(.slice (j27_.1.1.map (·.add (0 * 1))) ((Int.toNat 112) - 0) (j27_.1.2.2 - 0)), (.int .i64 0)]⟩))) (fun _ => M.stuck)
def f240c4 (X : Task → M Value) (L : LoopI) (b4_ : Nat) (x5_ : Int × Int × Int × Int × Int × Int × Int × Int × Int × Int × Int × Unit) : M (Value) :=
 M.callS (.one (.agg [(.int .u32), (.int .i64), (.int .u32), (.int .i64), (.int .u32), (.int .i64), (.int .u32), (.int .i64), (.int .u32), (.int .i64), (.int .u32), (.int .i64), (.int .u32), (.int .i64), (.int .u32), (.int .i64), (.int .u32), (.int .i64), (.int .u32), (.int .i64), (.int .u32), (.int .i64)])) (X (.call 300 [(.agg ⟨[(.int .i64 x5_.1), (.int .i64 x5_.2.1), (.int .i64 x5_.2.2.1), (.int .i64 x5_.2.2.2.1), (.int .u32 x5_.2.2.2.2.1), (.int .u32 x5_.2.2.2.2.2.1), (.int .u32 x5_.2.2.2.2.2.2.1), (.int .u32 x5_.2.2.2.2.2.2.2.1), (.int .u32 x5_.2.2.2.2.2.2.2.2.1), (.int .u32 x5_.2.2.2.2.2.2.2.2.2.1), (.int .u32 x5_.2.2.2.2.2.2.2.2.2.2.1)]⟩)])) fun (r6_ : Int × Int × Int × Int × Int × Int × Int × Int × Int × Int × Int × Int × Int × Int × Int × Int × Int × Int × Int × Int × Int × Int × Unit) =>
 f240c3 X L b4_ r6_
def f240c5 (X : Task → M Value) (L : LoopI) (b0_ : Nat) (v3_ : Bool) : M (Value) :=
 M.ite v3_
 (M.pure (.tuple ⟨[(.slice none 0 0), (.int .i64 1)]⟩))
 (M.guard (decide (0 ≤ 0) && decide (0 ≤ 112) && decide ((1 : Int) * 112 ≤ 2 ^ 48))
 (M.new (.cells (Row.rep [(.int .u8 0)] (Int.toNat 112)) 5 false (0, 0) false) fun b4_ =>
 M.load (.agg [(.int .i64), (.int .i64), (.int .i64), (.int .i64), (.int .u32), (.int .u32), (.int .u32), (.int .u32), (.int .u32), (.int .u32), (.int .u32)]) 11 (Addr.mk b0_ 0 none) fun (x5_ : Int × Int × Int × Int × Int × Int × Int × Int × Int × Int × Int × Unit) =>
 f240c4 X L b4_ x5_))
def f240c6 (X : Task → M Value) (L : LoopI) (b0_ : Nat) : M (Value) :=
 M.load (.agg [(.int .i64), (.int .i64), (.int .i64), (.int .i64), (.int .u32), (.int .u32), (.int .u32), (.int .u32), (.int .u32), (.int .u32), (.int .u32)]) 11 (Addr.mk b0_ 0 none) fun (x1_ : Int × Int × Int × Int × Int × Int × Int × Int × Int × Int × Int × Unit) =>
 M.callS (.one (.cell .bool)) (X (.call 102 [(.agg ⟨[(.int .i64 x1_.1), (.int .i64 x1_.2.1), (.int .i64 x1_.2.2.1), (.int .i64 x1_.2.2.2.1), (.int .u32 x1_.2.2.2.2.1), (.int .u32 x1_.2.2.2.2.2.1), (.int .u32 x1_.2.2.2.2.2.2.1), (.int .u32 x1_.2.2.2.2.2.2.2.1), (.int .u32 x1_.2.2.2.2.2.2.2.2.1), (.int .u32 x1_.2.2.2.2.2.2.2.2.2.1), (.int .u32 x1_.2.2.2.2.2.2.2.2.2.2.1)]⟩)])) fun (r2_ : Bool) =>
 f240c5 X L b0_ (!r2_)
def f240 (X : Task → M Value) (L : LoopI) (x : (Int × Int × Int × Int × Int × Int × Int × Int × Int × Int × Int × Unit) × Unit) : M Value :=
 M.new (.cells (Row.ofList [(.int .i64 x.1.1), (.int .i64 x.1.2.1), (.int .i64 x.1.2.2.1), (.int .i64 x.1.2.2.2.1), (.int .u32 x.1.2.2.2.2.1), (.int .u32 x.1.2.2.2.2.2.1), (.int .u32 x.1.2.2.2.2.2.2.1), (.int .u32 x.1.2.2.2.2.2.2.2.1), (.int .u32 x.1.2.2.2.2.2.2.2.2.1), (.int .u32 x.1.2.2.2.2.2.2.2.2.2.1), (.int .u32 x.1.2.2.2.2.2.2.2.2.2.2.1)]) 117 false (0, 0) false) fun b0_ =>
 f240c6 X L b0_

theorem e240 (X : Task → M Value) (L : LoopI) (x : (Int × Int × Int × Int × Int × Int × Int × Int × Int × Int × Int × Unit) × Unit) : evBody CC { call := X, loop := L } 240 (shsInj [(.agg [(.int .i64), (.int .i64), (.int .i64), (.int .i64), (.int .u32), (.int .u32), (.int .u32), (.int .u32), (.int .u32), (.int .u32), (.int .u32)])] x) = f240 X L x := by kernel_rfl

/-- cmp.Compare[rune] -/
def f241 (X : Task → M Value) (L : LoopI) (x : (Int) × (Int) × Unit) : M Value :=
 M.callS (.one (.cell .bool)) (X (.call 301 [(.int .i32 x.1)])) fun (r0_ : Bool) =>
 M.callS (.one (.cell .bool)) (X (.call 301 [(.int .i32 x.2.1)])) fun (r1_ : Bool) =>
 M.ite r0_
 (M.ite r1_
 (M.pure (.int .i64 0))
 (M.pure (.int .i64 (-1))))
 (M.ite r1_
 (M.pure (.int .i64 1))
 (M.ite (decide (x.1 < x.2.1))
 (M.pure (.int .i64 (-1)))
 (M.ite (decide (x.1 > x.2.1))
 (M.pure (.int .i64 1))
 (M.pure (.int .i64 0)))))

theorem e241 (X : Task → M Value) (L : LoopI) (x : (Int) × (Int) × Unit) : evBody CC { call := X, loop := L } 241 (shsInj [(.cell (.int .i32)), (.cell (.int .i32))] x) = f241 X L x := by kernel_rfl

/-- internal/bytealg.CompareString -/
def f242 (X : Task → M Value) (L : LoopI) (x : (ByteArray) × (ByteArray) × Unit) : M Value :=
 M.pure (.int .i64 (Extern.BytealgCompare.cmp x.1 x.2.1))

theorem e242 (X : Task → M Value) (L : LoopI) (x : (ByteArray) × (ByteArray) × Unit) : evBody CC { call := X, loop := L } 242 (shsInj [(.cell .string), (.cell .string)] x) = f242 X L x := by kernel_rfl

/-- hayrick/hayrickref06.blank -/
def f244c0 (X : Task → M Value) (L : LoopI) (b1_ : Nat) (s2_ : (Int) × Unit) (x4_ : (Option Addr × Nat × Nat)) : M (((Int) × Unit) ⊕ ((Unit) ⊕ (Unit))) :=
 M.guard (decide (0 ≤ 64) && decide (64 ≤ 64) && decide ((1 : Int) * 64 ≤ 2 ^ 48))
 (M.new (.cells (Row.rep [(.int .u8 0)] (Int.toNat 64)) 5 false (0, 0) false) fun b5_ =>
 M.new (.cells (Row.ofList [(.slice (some (Addr.mk b5_ 0 none)) (Int.toNat 64) (Int.toNat 64))]) 30 false (0, 0) false) fun b6_ =>
 M.append 30 1 24 x4_.1 x4_.2.1 x4_.2.2 (.slice (some (Addr.mk b6_ 0 none)) 1 1) fun a7_ n8_ c9_ =>
 M.store ((Addr.mk b1_ 0 none).add 0) [(.slice a7_ n8_ c9_)]
 (M.pure (.inl ((IntKind.i64.wrap (s2_.1 + 1)), ()))))
def f244c1 (X : Task → M Value) (L : LoopI) (x : (Int) × Unit) (b0_ : Nat) (b1_ : Nat) : M (Value) :=
 M.bind (L (σ := (Int) × Unit) (ρ := (Unit) ⊕ (Unit)) (fun s2_ =>
 M.ite (decide (s2_.1 < x.1))
 (M.load (.cell .slice) 1 ((Addr.mk b1_ 0 none).add 0) fun (x4_ : (Option Addr × Nat × Nat)) =>
 f244c0 X L b1_ s2_ x4_)
 (M.pure (.inr (.inl (()))))) (0, ())) <| M.sum (fun (j11_ : Unit) =>
 M.load (.agg [.slice, .bool]) 2 (Addr.mk b1_ 0 none) fun (x12_ : (Option Addr × Nat × Nat) × Bool × Unit) =>
 M.store (Addr.mk b0_ 0 none) [(.slice x12_.1.1 x12_.1.2.1 x12_.1.2.2), (.bool x12_.2.1)]
 (M.load (.agg [.slice, .bool]) 2 (Addr.mk b0_ 0 none) fun (x13_ : (Option Addr × Nat × Nat) × Bool × Unit) =>
 M.pure (.agg ⟨[(.slice x13_.1.1 x13_.1.2.1 x13_.1.2.2), (.bool x13_.2.1)]⟩))) (fun _ => M.stuck)
def f244 (X : Task → M Value) (L : LoopI) (x : (Int) × Unit) : M Value :=
 M.new (.cells (Row.ofList [(.slice none 0 0), (.bool false)]) 334 false (0, 0) false) fun b0_ =>
 M.new (.cells (Row.ofList [(.slice none 0 0), (.bool false)]) 334 false (0, 0) false) fun b1_ =>
 M.store (Addr.mk b1_ 0 none) [(.slice none 0 0), (.bool false)]
 (f244c1 X L x b0_ b1_)

theorem e244 (X : Task → M Value) (L : LoopI) (x : (Int) × Unit) : evBody CC { call := X, loop := L } 244 (shsInj [(.cell (.int .i64))] x) = f244 X L x := by kernel_rfl

/-- (*hayrick/array.Array).Disks -/
def f245 (X : Task → M Value) (L : LoopI) (x : (Option Addr) × Unit) : M Value :=
 M.eqPtr x.1 none fun (q0_ : Bool) =>
 M.ite q0_
 (M.pure (.int .i64 0))
 (M.deref x.1 fun a1_ =>
 M.load (.cell .slice) 1 (a1_.add 1) fun (x2_ : (Option Addr × Nat × Nat)) =>
 M.pure (.int .i64 ((x2_.2.1 : Nat) : Int)))

theorem e245 (X : Task → M Value) (L : LoopI) (x : (Option Addr) × Unit) : evBody CC { call := X, loop := L } 245 (shsInj [(.cell .ptr)] x) = f245 X L x := by kernel_rfl

/-- hayrick/code.May -/
def f246 (X : Task → M Value) (L : LoopI) (x : (Int) × (Int) × Unit) : M Value :=
 M.join (fun (j0_ : (Bool) × Unit) =>
 M.pure (.bool j0_.1)) fun go1_ =>
 M.ite (decide (x.1 ≥ 1))
 (M.ite (decide (x.2.1 > x.1))
 (go1_ ((decide (x.2.1 ≤ 255)), ()))
 (go1_ (false, ())))
 (go1_ (false, ()))

theorem e246 (X : Task → M Value) (L : LoopI) (x : (Int) × (Int) × Unit) : evBody CC { call := X, loop := L } 246 (shsInj [(.cell (.int .i64)), (.cell (.int .i64))] x) = f246 X L x := by kernel_rfl

/-- (*hayrick/array.Array).Sectors -/
def f247 (X : Task → M Value) (L : LoopI) (x : (Option Addr) × Unit) : M Value :=
 M.eqPtr x.1 none fun (q0_ : Bool) =>
 M.ite q0_
 (M.pure (.int .i64 0))
 (M.deref x.1 fun a1_ =>
 M.load (.cell (.int .i64)) 1 (a1_.add 0) fun (x2_ : Int) =>
 M.pure (.int .i64 x2_))

theorem e247 (X : Task → M Value) (L : LoopI) (x : (Option Addr) × Unit) : evBody CC { call := X, loop := L } 247 (shsInj [(.cell .ptr)] x) = f247 X L x := by kernel_rfl

/-- hayrick/hayrickref04.May -/
def f248 (X : Task → M Value) (L : LoopI) (x : (Int) × (Int) × Unit) : M Value :=
 M.join (fun (j0_ : (Bool) × Unit) =>
 M.pure (.bool j0_.1)) fun go1_ =>
 M.ite (decide (x.1 > 0))
 (M.ite (decide (x.2.1 > x.1))
 (go1_ ((decide (x.2.1 < 256)), ()))
 (go1_ (false, ())))
 (go1_ (false, ()))

theorem e248 (X : Task → M Value) (L : LoopI) (x : (Int) × (Int) × Unit) : evBody CC { call := X, loop := L } 248 (shsInj [(.cell (.int .i64)), (.cell (.int .i64))] x) = f248 X L x := by kernel_rfl

/-- slices.Clone[[]int,int] -/
def f249 (X : Task → M Value) (L : LoopI) (x : ((Option Addr × Nat × Nat)) × Unit) : M Value :=
 M.ite x.1.1.isNone
 (M.pure (.slice none 0 0))
 (M.new (.cells (Row.ofList []) 3 false (0, 0) false) fun b0_ =>
 M.append 3 1 8 (some (Addr.mk b0_ 0 none)) 0 0 (.slice x.1.1 x.1.2.1 x.1.2.2) fun a1_ n2_ c3_ =>
 M.pure (.slice a1_ n2_ c3_))

theorem e249 (X : Task → M Value) (L : LoopI) (x : ((Option Addr × Nat × Nat)) × Unit) : evBody CC { call := X, loop := L } 249 (shsInj [(.cell .slice)] x) = f249 X L x := by kernel_rfl

/-- slices.Sort[[]int,int] -/
def f250 (X : Task → M Value) (L : LoopI) (x : ((Option Addr × Nat × Nat)) × Unit) : M Value :=
 let v0_ : Int := ((x.1.2.1 : Nat) : Int)
 M.callS (.one (.cell (.int .i64))) (X (.call 305 [(.int .u64 (IntKind.u64.wrap v0_))])) fun (r2_ : Int) =>
 M.callS (.tuple []) (X (.call 304 [(.slice x.1.1 x.1.2.1 x.1.2.2), (.int .i64 0), (.int .i64 v0_), (.int .i64 r2_)])) fun (r3_ : Unit) =>
 M.pure (.tuple ⟨[]⟩)

theorem e250 (X : Task → M Value) (L : LoopI) (x : ((Option Addr × Nat × Nat)) × Unit) : evBody CC { call := X, loop := L } 250 (shsInj [(.cell .slice)] x) = f250 X L x := by kernel_rfl

/-- hayrick/hayrickref10.Whole -/
def f251c0 (X : Task → M Value) (L : LoopI) (x : (ByteArray) × Unit) : M (Value) :=
 M.bind (L (σ := (Int) × Unit) (ρ := (Unit) ⊕ (((Bool) × Unit) ⊕ (Unit))) (fun s0_ =>
 M.ite (decide (s0_.1 < ((x.1.size : Nat) : Int)))
 (M.guard (decide (0 ≤ s0_.1) && decide (s0_.1 ≤ ((x.1.size : Nat) : Int)))
 (M.callS (.tuple [(.cell (.int .i32)), (.cell (.int .i64)), (.cell .bool)]) (X (.call 306 [(.string (x.1.extract (Int.toNat s0_.1) x.1.size))])) fun (r5_ : (Int) × (Int) × (Bool) × Unit) =>
 M.ite r5_.2.2.1
 (M.pure (.inr (.inr (.inl (false, ())))))
 (M.pure (.inl ((IntKind.i64.wrap (s0_.1 + r5_.2.1)), ())))))
 (M.pure (.inr (.inl (()))))) (0, ())) <| M.sum (fun (j7_ : Unit) =>
 M.pure (.bool true)) (M.sum (fun (j8_ : (Bool) × Unit) =>
 M.pure (.bool j8_.1)) (fun _ => M.stuck))
def f251 (X : Task → M Value) (L : LoopI) (x : (ByteArray) × Unit) : M Value :=
 f251c0 X L x

theorem e251 (X : Task → M Value) (L : LoopI) (x : (ByteArray) × Unit) : evBody CC { call := X, loop := L } 251 (shsInj [(.cell .string)] x) = f251 X L x := by kernel_rfl

/-- hayrick/hayrickref14.Sum -/
def f255c0 (X : Task → M Value) (L : LoopI) (x : (Int) × Unit) : M (Value) :=
 M.join (fun (j0_ : (Bool) × Unit) =>
 M.ite j0_.1
 (M.pure (.int .i64 0))
 (M.guard (!(decide (15 = 0)))
 (let v3_ : Int := IntKind.i64.wrap (((IntKind.i64.wrap (4 * x.1)) : Int).tdiv 15)
 M.join (fun (j4_ : (Int) × Unit) =>
 M.pure (.int .i64 j4_.1)) fun go5_ =>
 M.guard (!(decide (15 = 0)))
 (M.ite (decide ((((IntKind.i64.wrap (4 * x.1)) : Int).tmod 15) > 0))
 (go5_ ((IntKind.i64.wrap (v3_ + 1)), ()))
 (go5_ (v3_, ())))))) fun go1_ =>
 M.ite (decide (x.1 < 1))
 (go1_ (true, ()))
 (go1_ ((decide (x.1 > 254)), ()))
def f255 (X : Task → M Value) (L : LoopI) (x : (Int) × Unit) : M Value :=
 f255c0 X L x

theorem e255 (X : Task → M Value) (L : LoopI) (x : (Int) × Unit) : evBody CC { call := X, loop := L } 255 (shsInj [(.cell (.int .i64))] x) = f255 X L x := by kernel_rfl

/-- (*hayrick/logs.Log).Append$1 -/
def f257c0 (X : Task → M Value) (L : LoopI) (x : (Option Addr) × (Option Addr) × (Option Addr) × (Option Addr) × Unit) (x75_ : Option Addr) (a76_ : Addr) (x77_ : (Option Addr × Nat × Nat)) (v78_ : Int) (r85_ : Int) : M (Value) :=
 M.load (.cell .slice) 1 (a76_.add 5) fun (x86_ : (Option Addr × Nat × Nat)) => cond (veqv (.slice x86_.1 x86_.2.1 x86_.2.2) (.slice x77_.1 x77_.2.1 x77_.2.2)) (M.deref x.2.2.1 fun a87_ =>
 M.load (.cell .ptr) 1 a87_ fun (x88_ : Option Addr) => cond (veqv (.pointer x88_) (.pointer x75_)) (M.ite (v78_ == r85_)
 (M.deref x.2.2.1 fun a90_ =>
 M.load (.cell .ptr) 1 a90_ fun (x91_ : Option Addr) =>
 M.callS (.one (.cell (.int .i64))) (X (.call 137 [(.pointer x91_)])) fun (r92_ : Int) =>
 M.pure (.int .i64 r92_))
 (M.pure (.int .i64 0))) M.stuck) M.stuck
def f257c1 (X : Task → M Value) (L : LoopI) (x : (Option Addr) × (Option Addr) × (Option Addr) × (Option Addr) × Unit) (x75_ : Option Addr) (a76_ : Addr) (x77_ : (Option Addr × Nat × Nat)) (v78_ : Int) (x80_ : Option Addr) : M (Value) :=
 M.callS (.one (.cell (.int .i64))) (X (.call 201 [(.pointer x80_)])) fun (r81_ : Int) =>
 M.load (.cell .slice) 1 (a76_.add 5) fun (x82_ : (Option Addr × Nat × Nat)) => cond (veqv (.slice x82_.1 x82_.2.1 x82_.2.2) (.slice x77_.1 x77_.2.1 x77_.2.2)) (M.deref x.2.2.1 fun a83_ =>
 M.load (.cell .ptr) 1 a83_ fun (x84_ : Option Addr) => cond (veqv (.pointer x84_) (.pointer x75_)) (M.callS (.one (.cell (.int .i64))) (X (.call 260 [(.int .i64 r81_)])) fun (r85_ : Int) =>
 f257c0 X L x x75_ a76_ x77_ v78_ r85_) M.stuck) M.stuck
def f257c2 (X : Task → M Value) (L : LoopI) (x : (Option Addr) × (Option Addr) × (Option Addr) × (Option Addr) × Unit) (x28_ : Option Addr) (a63_ : Option Addr) (n64_ : Nat) (c65_ : Nat) : M (Value) :=
 M.deref x.2.2.1 fun a71_ =>
 M.load (.cell .ptr) 1 a71_ fun (x72_ : Option Addr) => cond (veqv (.pointer x72_) (.pointer x28_)) (M.deref x28_ fun a73_ =>
 M.store (a73_.add 6) [(.slice a63_ n64_ c65_)]
 (M.deref x.2.2.1 fun a74_ =>
 M.load (.cell .ptr) 1 a74_ fun (x75_ : Option Addr) =>
 M.deref x75_ fun a76_ =>
 M.load (.cell .slice) 1 (a76_.add 5) fun (x77_ : (Option Addr × Nat × Nat)) =>
 M.deref x.2.2.1 fun a79_ =>
 M.load (.cell .ptr) 1 a79_ fun (x80_ : Option Addr) =>
 f257c1 X L x x75_ a76_ x77_ ((x77_.2.1 : Nat) : Int) x80_)) M.stuck
def f257c3 (X : Task → M Value) (L : LoopI) (x : (Option Addr) × (Option Addr) × (Option Addr) × (Option Addr) × Unit) (x26_ : Option Addr) (x28_ : Option Addr) (x37_ : Option Addr) (a38_ : Addr) (x39_ : (Option Addr × Nat × Nat)) (a42_ : Option Addr) (n43_ : Nat) (c44_ : Nat) (r54_ : (Option Addr × Nat × Nat)) : M (Value) :=
 M.load (.cell .slice) 1 (a38_.add 6) fun (x55_ : (Option Addr × Nat × Nat)) => cond (veqv (.slice x55_.1 x55_.2.1 x55_.2.2) (.slice x39_.1 x39_.2.1 x39_.2.2)) (M.deref x.2.2.1 fun a56_ =>
 M.load (.cell .ptr) 1 a56_ fun (x57_ : Option Addr) => cond (veqv (.pointer x57_) (.pointer x37_)) (M.deref x.2.2.1 fun a58_ =>
 M.load (.cell .ptr) 1 a58_ fun (x59_ : Option Addr) => cond (veqv (.pointer x59_) (.pointer x28_)) (M.deref x.2.2.1 fun a60_ =>
 M.load (.cell .ptr) 1 a60_ fun (x61_ : Option Addr) => cond (veqv (.pointer x61_) (.pointer x26_)) (M.new (.cells (Row.ofList [(.slice r54_.1 r54_.2.1 r54_.2.2)]) 30 false (0, 0) false) fun b62_ =>
 M.append 30 1 24 x39_.1 x39_.2.1 x39_.2.2 (.slice (some (Addr.mk b62_ 0 none)) 1 1) fun a63_ n64_ c65_ =>
 M.deref x.2.2.1 fun a66_ =>
 M.load (.cell .ptr) 1 a66_ fun (x67_ : Option Addr) => cond (veqv (.pointer x67_) (.pointer x28_)) (M.deref x.2.2.1 fun a68_ =>
 M.load (.cell .ptr) 1 a68_ fun (x69_ : Option Addr) => cond (veqv (.pointer x69_) (.pointer x26_)) (M.deref x26_ fun a70_ =>
 M.store (a70_.add 5) [(.slice a42_ n43_ c44_)]
 (f257c2 X L x x28_ a63_ n64_ c65_)) M.stuck) M.stuck) M.stuck) M.stuck) M.stuck) M.stuck
def f257c4 (X : Task → M Value) (L : LoopI) (x : (Option Addr) × (Option Addr) × (Option Addr) × (Option Addr) × Unit) (x26_ : Option Addr) (x28_ : Option Addr) (x37_ : Option Addr) (a38_ : Addr) (x39_ : (Option Addr × Nat × Nat)) (x41_ : (Option Addr × Nat × Nat)) (a42_ : Option Addr) (n43_ : Nat) (c44_ : Nat) : M (Value) :=
 M.deref x.2.1 fun a45_ =>
 M.load (.cell .slice) 1 a45_ fun (x46_ : (Option Addr × Nat × Nat)) => cond (veqv (.slice x46_.1 x46_.2.1 x46_.2.2) (.slice x41_.1 x41_.2.1 x41_.2.2)) (M.load (.cell .slice) 1 (a38_.add 6) fun (x47_ : (Option Addr × Nat × Nat)) => cond (veqv (.slice x47_.1 x47_.2.1 x47_.2.2) (.slice x39_.1 x39_.2.1 x39_.2.2)) (M.deref x.2.2.1 fun a48_ =>
 M.load (.cell .ptr) 1 a48_ fun (x49_ : Option Addr) => cond (veqv (.pointer x49_) (.pointer x37_)) (M.deref x.2.2.1 fun a50_ =>
 M.load (.cell .ptr) 1 a50_ fun (x51_ : Option Addr) => cond (veqv (.pointer x51_) (.pointer x28_)) (M.deref x.2.2.1 fun a52_ =>
 M.load (.cell .ptr) 1 a52_ fun (x53_ : Option Addr) => cond (veqv (.pointer x53_) (.pointer x26_)) (M.callS (.one (.cell .slice)) (X (.call 236 [(.slice x41_.1 x41_.2.1 x41_.2.2)])) fun (r54_ : (Option Addr × Nat × Nat)) =>
 f257c3 X L x x26_ x28_ x37_ a38_ x39_ a42_ n43_ c44_ r54_) M.stuck) M.stuck) M.stuck) M.stuck) M.stuck
def f257c5 (X : Task → M Value) (L : LoopI) (x : (Option Addr) × (Option Addr) × (Option Addr) × (Option Addr) × Unit) (x26_ : Option Addr) (x28_ : Option Addr) (x32_ : (Option Addr × Nat × Nat)) (x34_ : Int × Bool × Int × Int × Unit) : M (Value) :=
 M.new (.cells (Row.ofList [(.int .i64 x34_.1), (.bool x34_.2.1), (.int .i64 x34_.2.2.1), (.int .i64 x34_.2.2.2.1)]) 226 false (0, 0) false) fun b35_ =>
 M.deref x.2.2.1 fun a36_ =>
 M.load (.cell .ptr) 1 a36_ fun (x37_ : Option Addr) =>
 M.deref x37_ fun a38_ =>
 M.load (.cell .slice) 1 (a38_.add 6) fun (x39_ : (Option Addr × Nat × Nat)) =>
 M.deref x.2.1 fun a40_ =>
 M.load (.cell .slice) 1 a40_ fun (x41_ : (Option Addr × Nat × Nat)) =>
 M.append 226 4 32 x32_.1 x32_.2.1 x32_.2.2 (.slice (some (Addr.mk b35_ 0 none)) 1 1) fun a42_ n43_ c44_ =>
 f257c4 X L x x26_ x28_ x37_ a38_ x39_ x41_ a42_ n43_ c44_
def f257c6 (X : Task → M Value) (L : LoopI) (x : (Option Addr) × (Option Addr) × (Option Addr) × (Option Addr) × Unit) : M (Value) :=
 M.deref x.2.2.1 fun a25_ =>
 M.load (.cell .ptr) 1 a25_ fun (x26_ : Option Addr) =>
 M.deref x.2.2.1 fun a27_ =>
 M.load (.cell .ptr) 1 a27_ fun (x28_ : Option Addr) =>
 M.deref x.2.2.1 fun a29_ =>
 M.load (.cell .ptr) 1 a29_ fun (x30_ : Option Addr) =>
 M.deref x30_ fun a31_ =>
 M.load (.cell .slice) 1 (a31_.add 5) fun (x32_ : (Option Addr × Nat × Nat)) =>
 M.deref x.1 fun a33_ =>
 M.load (.agg [(.int .i64), .bool, (.int .i64), (.int .i64)]) 4 a33_ fun (x34_ : Int × Bool × Int × Int × Unit) =>
 f257c5 X L x x26_ x28_ x32_ x34_
def f257c7 (X : Task → M Value) (L : LoopI) (x : (Option Addr) × (Option Addr) × (Option Addr) × (Option Addr) × Unit) (x7_ : Option Addr) (a8_ : Addr) (x9_ : Int) (x11_ : Option Addr) (a12_ : Addr) (x13_ : (Option Addr × Nat × Nat)) (v14_ : Int) (r15_ : Int) : M (Value) :=
 M.load (.cell .slice) 1 (a12_.add 5) fun (x16_ : (Option Addr × Nat × Nat)) => cond (veqv (.slice x16_.1 x16_.2.1 x16_.2.2) (.slice x13_.1 x13_.2.1 x13_.2.2)) (M.deref x.2.2.1 fun a17_ =>
 M.load (.cell .ptr) 1 a17_ fun (x18_ : Option Addr) => cond (veqv (.pointer x18_) (.pointer x11_)) (M.load (.cell (.int .i64)) 1 (a8_.add 4) fun (x19_ : Int) => cond (veqv (.int .i64 x19_) (.int .i64 x9_)) (M.deref x.2.2.1 fun a20_ =>
 M.load (.cell .ptr) 1 a20_ fun (x21_ : Option Addr) => cond (veqv (.pointer x21_) (.pointer x7_)) (M.callS (.tuple [(.cell (.int .u32)), (.cell (.int .i64))]) (X (.call 259 [(.int .i64 r15_), (.int .i64 x9_), (.int .i64 v14_)])) fun (r22_ : (Int) × (Int) × Unit) =>
 M.deref x.2.2.2.1 fun a23_ =>
 M.store a23_ [(.int .u32 r22_.1)]
 (M.ite (!(r22_.2.1 == 0))
 (M.pure (.int .i64 r22_.2.1))
 (f257c6 X L x))) M.stuck) M.stuck) M.stuck) M.stuck
def f257c8 (X : Task → M Value) (L : LoopI) (x : (Option Addr) × (Option Addr) × (Option Addr) × (Option Addr) × Unit) (x5_ : Option Addr) : M (Value) :=
 M.deref x.2.2.1 fun a6_ =>
 M.load (.cell .ptr) 1 a6_ fun (x7_ : Option Addr) =>
 M.deref x7_ fun a8_ =>
 M.load (.cell (.int .i64)) 1 (a8_.add 4) fun (x9_ : Int) =>
 M.deref x.2.2.1 fun a10_ =>
 M.load (.cell .ptr) 1 a10_ fun (x11_ : Option Addr) =>
 M.deref x11_ fun a12_ =>
 M.load (.cell .slice) 1 (a12_.add 5) fun (x13_ : (Option Addr × Nat × Nat)) =>
 M.callS (.one (.cell (.int .i64))) (X (.call 201 [(.pointer x5_)])) fun (r15_ : Int) =>
 f257c7 X L x x7_ a8_ x9_ x11_ a12_ x13_ ((x13_.2.1 : Nat) : Int) r15_
def f257c9 (X : Task → M Value) (L : LoopI) (x : (Option Addr) × (Option Addr) × (Option Addr) × (Option Addr) × Unit) (go3_ : (Unit) → M (Value)) : M (Value) :=
 M.deref x.2.2.1 fun a123_ =>
 M.load (.cell .ptr) 1 a123_ fun (x124_ : Option Addr) =>
 M.deref x124_ fun a125_ =>
 M.load (.cell .slice) 1 (a125_.add 2) fun (x126_ : (Option Addr × Nat × Nat)) =>
 M.deref x.2.2.1 fun a127_ =>
 M.load (.cell .ptr) 1 a127_ fun (x128_ : Option Addr) =>
 M.deref x128_ fun a129_ =>
 M.load (.cell (.int .i64)) 1 (a129_.add 4) fun (x130_ : Int) =>
 M.guard (decide (0 ≤ x130_) && decide (x130_ < ((x126_.2.1 : Nat) : Int)))
 (M.deref x126_.1 fun a131_ =>
 M.store (a131_.add ((Int.toNat x130_) * 1)) [(.int .u64 0)]
 (go3_ (())))
def f257c10 (X : Task → M Value) (L : LoopI) (x : (Option Addr) × (Option Addr) × (Option Addr) × (Option Addr) × Unit) (go3_ : (Unit) → M (Value)) (x105_ : Option Addr) (x107_ : Option Addr) (x113_ : Int) (a116_ : Addr) : M (Value) :=
 M.load (.cell .slice) 1 (a116_.add 3) fun (x117_ : (Option Addr × Nat × Nat)) =>
 M.guard (decide (0 ≤ 1) && decide (1 ≤ ((x117_.2.1 : Nat) : Int)))
 (let v118_ : Nat := (Int.toNat 1)
 M.deref x105_ fun a119_ =>
 M.store (a119_.add 4) [(.int .i64 x113_)]
 (M.deref x.2.2.1 fun a120_ =>
 M.load (.cell .ptr) 1 a120_ fun (x121_ : Option Addr) => cond (veqv (.pointer x121_) (.pointer x107_)) (M.deref x107_ fun a122_ =>
 M.store (a122_.add 3) [(.slice (x117_.1.map (·.add (v118_ * 1))) (x117_.2.1 - v118_) (x117_.2.2 - v118_))]
 (f257c9 X L x go3_)) M.stuck))
def f257c11 (X : Task → M Value) (L : LoopI) (x : (Option Addr) × (Option Addr) × (Option Addr) × (Option Addr) × Unit) (go3_ : (Unit) → M (Value)) (x105_ : Option Addr) (x107_ : Option Addr) : M (Value) :=
 M.deref x.2.2.1 fun a108_ =>
 M.load (.cell .ptr) 1 a108_ fun (x109_ : Option Addr) =>
 M.deref x109_ fun a110_ =>
 M.load (.cell .slice) 1 (a110_.add 3) fun (x111_ : (Option Addr × Nat × Nat)) =>
 M.guard (decide (0 ≤ 0) && decide (0 < ((x111_.2.1 : Nat) : Int)))
 (M.deref x111_.1 fun a112_ =>
 M.load (.cell (.int .i64)) 1 (a112_.add ((Int.toNat 0) * 1)) fun (x113_ : Int) =>
 M.deref x.2.2.1 fun a114_ =>
 M.load (.cell .ptr) 1 a114_ fun (x115_ : Option Addr) =>
 M.deref x115_ fun a116_ =>
 f257c10 X L x go3_ x105_ x107_ x113_ a116_)
def f257c12 (X : Task → M Value) (L : LoopI) (x : (Option Addr) × (Option Addr) × (Option Addr) × (Option Addr) × Unit) (go3_ : (Unit) → M (Value)) (a95_ : Addr) : M (Value) :=
 M.load (.cell (.int .i64)) 1 (a95_.add 4) fun (x96_ : Int) =>
 M.ite (decide (x96_ < 0))
 (M.deref x.2.2.1 fun a98_ =>
 M.load (.cell .ptr) 1 a98_ fun (x99_ : Option Addr) =>
 M.deref x99_ fun a100_ =>
 M.load (.cell .slice) 1 (a100_.add 3) fun (x101_ : (Option Addr × Nat × Nat)) =>
 M.ite (((x101_.2.1 : Nat) : Int) == 0)
 (M.pure (.int .i64 7))
 (M.deref x.2.2.1 fun a104_ =>
 M.load (.cell .ptr) 1 a104_ fun (x105_ : Option Addr) =>
 M.deref x.2.2.1 fun a106_ =>
 M.load (.cell .ptr) 1 a106_ fun (x107_ : Option Addr) =>
 f257c11 X L x go3_ x105_ x107_))
 (go3_ (()))
def f257c13 (X : Task → M Value) (L : LoopI) (x : (Option Addr) × (Option Addr) × (Option Addr) × (Option Addr) × Unit) : M (Value) :=
 M.join (fun (j0_ : (Bool) × Unit) =>
 M.ite j0_.1
 (M.pure (.int .i64 1))
 (M.join (fun (j2_ : Unit) =>
 M.deref x.2.2.1 fun a4_ =>
 M.load (.cell .ptr) 1 a4_ fun (x5_ : Option Addr) =>
 f257c8 X L x x5_) fun go3_ =>
 M.deref x.2.2.1 fun a93_ =>
 M.load (.cell .ptr) 1 a93_ fun (x94_ : Option Addr) =>
 M.deref x94_ fun a95_ =>
 f257c12 X L x go3_ a95_)) fun go1_ =>
 M.deref x.1 fun a132_ =>
 M.load (.agg [(.int .i64), .bool, (.int .i64), (.int .i64)]) 4 a132_ fun (x133_ : Int × Bool × Int × Int × Unit) =>
 M.callS (.one (.cell .bool)) (X (.call 258 [(.agg ⟨[(.int .i64 x133_.1), (.bool x133_.2.1), (.int .i64 x133_.2.2.1), (.int .i64 x133_.2.2.2.1)]⟩)])) fun (r134_ : Bool) =>
 M.ite (!r134_)
 (go1_ (true, ()))
 (M.deref x.2.1 fun a136_ =>
 M.load (.cell .slice) 1 a136_ fun (x137_ : (Option Addr × Nat × Nat)) =>
 go1_ ((!(((x137_.2.1 : Nat) : Int) == 112)), ()))
def f257 (X : Task → M Value) (L : LoopI) (x : (Option Addr) × (Option Addr) × (Option Addr) × (Option Addr) × Unit) : M Value :=
 f257c13 X L x

theorem e257 (X : Task → M Value) (L : LoopI) (x : (Option Addr) × (Option Addr) × (Option Addr) × (Option Addr) × Unit) : evBody CC { call := X, loop := L } 257 (shsInj [(.cell .ptr), (.cell .ptr), (.cell .ptr), (.cell .ptr)] x) = f257 X L x := by kernel_rfl

/-- hayrick/summary.May -/
def f258c0 (X : Task → M Value) (L : LoopI) (b0_ : Nat) (go2_ : ((Bool) × Unit) → M (Value)) (v10_ : Bool) : M (Value) :=
 M.ite v10_
 (go2_ (true, ()))
 (M.load (.cell (.int .i64)) 1 ((Addr.mk b0_ 0 none).add 0) fun (x11_ : Int) =>
 M.ite (decide (x11_ > 4))
 (go2_ (true, ()))
 (M.load (.cell (.int .i64)) 1 ((Addr.mk b0_ 0 none).add 2) fun (x13_ : Int) =>
 M.ite (decide (x13_ < 1))
 (go2_ (true, ()))
 (M.load (.cell (.int .i64)) 1 ((Addr.mk b0_ 0 none).add 2) fun (x15_ : Int) =>
 M.ite (decide (x15_ > 64))
 (go2_ (true, ()))
 (M.load (.cell (.int .i64)) 1 ((Addr.mk b0_ 0 none).add 3) fun (x17_ : Int) =>
 go2_ ((decide (x17_ < 0)), ())))))
def f258c1 (X : Task → M Value) (L : LoopI) (b0_ : Nat) : M (Value) :=
 M.join (fun (j1_ : (Bool) × Unit) =>
 M.ite j1_.1
 (M.pure (.bool false))
 (M.load (.cell (.int .i64)) 1 ((Addr.mk b0_ 0 none).add 0) fun (x3_ : Int) =>
 M.ite (x3_ == 1)
 (M.load (.cell (.int .i64)) 1 ((Addr.mk b0_ 0 none).add 3) fun (x5_ : Int) =>
 M.pure (.bool (decide (x5_ < 34))))
 (M.load (.cell (.int .i64)) 1 ((Addr.mk b0_ 0 none).add 3) fun (x7_ : Int) =>
 M.pure (.bool (x7_ == 0))))) fun go2_ =>
 M.load (.cell (.int .i64)) 1 ((Addr.mk b0_ 0 none).add 0) fun (x9_ : Int) =>
 f258c0 X L b0_ go2_ (decide (x9_ < 1))
def f258 (X : Task → M Value) (L : LoopI) (x : (Int × Bool × Int × Int × Unit) × Unit) : M Value :=
 M.new (.cells (Row.ofList [(.int .i64 x.1.1), (.bool x.1.2.1), (.int .i64 x.1.2.2.1), (.int .i64 x.1.2.2.2.1)]) 226 false (0, 0) false) fun b0_ =>
 f258c1 X L b0_

theorem e258 (X : Task → M Value) (L : LoopI) (x : (Int × Bool × Int × Int × Unit) × Unit) : evBody CC { call := X, loop := L } 258 (shsInj [(.agg [(.int .i64), .bool, (.int .i64), (.int .i64)])] x) = f258 X L x := by kernel_rfl

/-- hayrick/summary.Address -/
def f259c0 (X : Task → M Value) (L : LoopI) (x : (Int) × (Int) × (Int) × Unit) : M (Value) :=
 M.join (fun (j0_ : (Bool) × Unit) =>
 M.ite j0_.1
 (M.pure (.tuple ⟨[(.int .u32 0), (.int .i64 1)]⟩))
 (M.callS (.one (.cell (.int .i64))) (X (.call 238 [(.int .i64 x.1)])) fun (r4_ : Int) =>
 M.pure (.tuple ⟨[(.int .u32 (IntKind.u32.wrap (IntKind.i64.wrap ((IntKind.i64.wrap ((IntKind.i64.wrap ((IntKind.i64.wrap ((IntKind.i64.wrap (x.2.1 * 4)) * x.1)) + r4_)) + x.2.2.1)) + 1)))), (.int .i64 0)]⟩))) fun go1_ =>
 M.callS (.one (.cell .bool)) (X (.call 261 [(.int .i64 x.1)])) fun (r9_ : Bool) =>
 M.ite (!r9_)
 (go1_ (true, ()))
 (M.ite (decide (x.2.1 < 0))
 (go1_ (true, ()))
 (M.ite (decide (x.2.1 ≥ 128))
 (go1_ (true, ()))
 (M.ite (decide (x.2.2.1 < 0))
 (go1_ (true, ()))
 (M.callS (.one (.cell (.int .i64))) (X (.call 260 [(.int .i64 x.1)])) fun (r14_ : Int) =>
 go1_ ((decide (x.2.2.1 ≥ r14_)), ())))))
def f259 (X : Task → M Value) (L : LoopI) (x : (Int) × (Int) × (Int) × Unit) : M Value :=
 f259c0 X L x

theorem e259 (X : Task → M Value) (L : LoopI) (x : (Int) × (Int) × (Int) × Unit) : evBody CC { call := X, loop := L } 259 (shsInj [(.cell (.int .i64)), (.cell (.int .i64)), (.cell (.int .i64))] x) = f259 X L x := by kernel_rfl

/-- hayrick/summary.Cap -/
def f260 (X : Task → M Value) (L : LoopI) (x : (Int) × Unit) : M Value :=
 M.callS (.one (.cell .bool)) (X (.call 261 [(.int .i64 x.1)])) fun (r0_ : Bool) =>
 M.ite (!r0_)
 (M.pure (.int .i64 0))
 (M.callS (.one (.cell (.int .i64))) (X (.call 238 [(.int .i64 x.1)])) fun (r3_ : Int) =>
 M.pure (.int .i64 (IntKind.i64.wrap ((IntKind.i64.wrap (4 * x.1)) - r3_))))

theorem e260 (X : Task → M Value) (L : LoopI) (x : (Int) × Unit) : evBody CC { call := X, loop := L } 260 (shsInj [(.cell (.int .i64))] x) = f260 X L x := by kernel_rfl

/-- hayrick/summary.right -/
def f261 (X : Task → M Value) (L : LoopI) (x : (Int) × Unit) : M Value :=
 M.join (fun (j0_ : (Bool) × Unit) =>
 M.pure (.bool j0_.1)) fun go1_ =>
 M.ite (decide (x.1 ≥ 1))
 (go1_ ((decide (x.1 ≤ 254)), ()))
 (go1_ (false, ()))

theorem e261 (X : Task → M Value) (L : LoopI) (x : (Int) × Unit) : evBody CC { call := X, loop := L } 261 (shsInj [(.cell (.int .i64))] x) = f261 X L x := by kernel_rfl

/-- (*hayrick/stripe.Stripes).right -/
def f262c0 (X : Task → M Value) (L : LoopI) (x : (Option Addr) × (Int) × (Int) × (Int) × (Bool) × Unit) : M (Value) :=
 M.join (fun (j5_ : (Bool) × Unit) =>
 M.ite j5_.1
 (M.pure (.int .i64 6))
 (M.join (fun (j7_ : (Bool) × Unit) =>
 M.ite j7_.1
 (M.pure (.int .i64 1))
 (M.pure (.int .i64 0))) fun go8_ =>
 M.ite (x.2.2.2.1 == 0)
 (go8_ (true, ()))
 (go8_ ((!x.2.2.2.2.1), ())))) fun go6_ =>
 M.ite (decide (x.2.2.1 < 0))
 (go6_ (true, ()))
 (M.deref x.1 fun a12_ =>
 M.load (.cell (.int .i64)) 1 ((a12_.add 1).add 2) fun (x13_ : Int) =>
 M.ite (decide (x.2.2.1 ≥ x13_))
 (go6_ (true, ()))
 (M.ite (decide (x.2.1 < 0))
 (go6_ (true, ()))
 (M.deref x.1 fun a16_ =>
 M.load (.cell (.int .i64)) 1 ((a16_.add 1).add 1) fun (x17_ : Int) =>
 go6_ ((decide (x.2.1 ≥ x17_)), ()))))
def f262c1 (X : Task → M Value) (L : LoopI) (x : (Option Addr) × (Int) × (Int) × (Int) × (Bool) × Unit) : M (Value) :=
 M.join (fun (j0_ : (Bool) × Unit) =>
 M.ite j0_.1
 (M.pure (.int .i64 2))
 (M.deref x.1 fun a2_ =>
 M.load (.cell .ptr) 1 (a2_.add 0) fun (x3_ : Option Addr) =>
 M.callS (.one (.cell .bool)) (X (.call 311 [(.pointer x3_)])) fun (r4_ : Bool) =>
 M.ite r4_
 (M.pure (.int .i64 8))
 (f262c0 X L x))) fun go1_ =>
 M.eqPtr x.1 none fun (q19_ : Bool) =>
 M.ite q19_
 (go1_ (true, ()))
 (M.deref x.1 fun a20_ =>
 M.load (.cell .ptr) 1 (a20_.add 0) fun (x21_ : Option Addr) =>
 M.eqPtr x21_ none fun (q22_ : Bool) =>
 go1_ (q22_, ()))
def f262 (X : Task → M Value) (L : LoopI) (x : (Option Addr) × (Int) × (Int) × (Int) × (Bool) × Unit) : M Value :=
 f262c1 X L x

theorem e262 (X : Task → M Value) (L : LoopI) (x : (Option Addr) × (Int) × (Int) × (Int) × (Bool) × Unit) : evBody CC { call := X, loop := L } 262 (shsInj [(.cell .ptr), (.cell (.int .i64)), (.cell (.int .i64)), (.cell (.int .u64)), (.cell .bool)] x) = f262 X L x := by kernel_rfl

/-- (*hayrick/array.Array).Ons -/
def f263c0 (X : Task → M Value) (L : LoopI) (x : (Option Addr) × Unit) (r0_ : Int) : M (Value) :=
 M.bind (L (σ := (Int) × (Int) × Unit) (ρ := ((Int) × Unit) ⊕ (Unit)) (fun s1_ =>
 M.ite (decide (s1_.2.1 < r0_))
 (M.join (fun (j3_ : (Int) × Unit) =>
 M.pure (.inl (j3_.1, (IntKind.i64.wrap (s1_.2.1 + 1)), ()))) fun go4_ =>
 M.callS (.one (.cell .bool)) (X (.call 266 [(.pointer x.1), (.int .i64 s1_.2.1)])) fun (r6_ : Bool) =>
 M.ite r6_
 (go4_ ((IntKind.i64.wrap (s1_.1 + 1)), ()))
 (go4_ (s1_.1, ())))
 (M.pure (.inr (.inl (s1_.1, ()))))) (0, 0, ())) <| M.sum (fun (j8_ : (Int) × Unit) =>
 M.pure (.int .i64 j8_.1)) (fun _ => M.stuck)
def f263 (X : Task → M Value) (L : LoopI) (x : (Option Addr) × Unit) : M Value :=
 M.callS (.one (.cell (.int .i64))) (X (.call 245 [(.pointer x.1)])) fun (r0_ : Int) =>
 f263c0 X L x r0_

theorem e263 (X : Task → M Value) (L : LoopI) (x : (Option Addr) × Unit) : evBody CC { call := X, loop := L } 263 (shsInj [(.cell .ptr)] x) = f263 X L x := by kernel_rfl

/-- hayrick/code.Encode -/
def f264c0 (X : Task → M Value) (L : LoopI) (x : (Int) × (Int) × ((Option Addr × Nat × Nat)) × Unit) (s2_ : ((Option Addr × Nat × Nat)) × (Int) × Unit) : M ((((Option Addr × Nat × Nat)) × (Int) × Unit) ⊕ ((((Option Addr × Nat × Nat)) × Unit) ⊕ (Unit))) :=
 M.callS (.one (.cell .slice)) (X (.call 314 [(.int .i64 x.1), (.int .i64 s2_.2.1)])) fun (r4_ : (Option Addr × Nat × Nat)) =>
 M.callS (.one (.cell .slice)) (X (.call 313 [(.slice r4_.1 r4_.2.1 r4_.2.2), (.slice x.2.2.1.1 x.2.2.1.2.1 x.2.2.1.2.2)])) fun (r5_ : (Option Addr × Nat × Nat)) =>
 M.new (.cells (Row.ofList [(.slice r5_.1 r5_.2.1 r5_.2.2)]) 30 false (0, 0) false) fun b6_ =>
 M.append 30 1 24 s2_.1.1 s2_.1.2.1 s2_.1.2.2 (.slice (some (Addr.mk b6_ 0 none)) 1 1) fun a7_ n8_ c9_ =>
 M.pure (.inl ((a7_, n8_, c9_), (IntKind.i64.wrap (s2_.2.1 + 1)), ()))
def f264c1 (X : Task → M Value) (L : LoopI) (x : (Int) × (Int) × ((Option Addr × Nat × Nat)) × Unit) : M (Value) :=
 M.join (fun (j0_ : (Bool) × Unit) =>
 M.ite j0_.1
 (M.pure (.tuple ⟨[(.slice none 0 0), (.int .i64 1)]⟩))
 (M.bind (L (σ := ((Option Addr × Nat × Nat)) × (Int) × Unit) (ρ := (((Option Addr × Nat × Nat)) × Unit) ⊕ (Unit)) (fun s2_ =>
 M.ite (decide (s2_.2.1 < x.2.1))
 (f264c0 X L x s2_)
 (M.pure (.inr (.inl (s2_.1, ()))))) ((none, 0, 0), 0, ())) <| M.sum (fun (j11_ : ((Option Addr × Nat × Nat)) × Unit) =>
 M.pure (.tuple ⟨[(.slice j11_.1.1 j11_.1.2.1 j11_.1.2.2), (.int .i64 0)]⟩)) (fun _ => M.stuck))) fun go1_ =>
 M.callS (.one (.cell .bool)) (X (.call 246 [(.int .i64 x.1), (.int .i64 x.2.1)])) fun (r12_ : Bool) =>
 M.ite (!r12_)
 (go1_ (true, ()))
 (M.ite (!(((x.2.2.1.2.1 : Nat) : Int) == x.1))
 (go1_ (true, ()))
 (M.callS (.one (.cell .bool)) (X (.call 312 [(.slice x.2.2.1.1 x.2.2.1.2.1 x.2.2.1.2.2)])) fun (r16_ : Bool) =>
 go1_ ((!r16_), ())))
def f264 (X : Task → M Value) (L : LoopI) (x : (Int) × (Int) × ((Option Addr × Nat × Nat)) × Unit) : M Value :=
 f264c1 X L x

theorem e264 (X : Task → M Value) (L : LoopI) (x : (Int) × (Int) × ((Option Addr × Nat × Nat)) × Unit) : evBody CC { call := X, loop := L } 264 (shsInj [(.cell (.int .i64)), (.cell (.int .i64)), (.cell .slice)] x) = f264 X L x := by kernel_rfl

/-- hayrick/stripe.parts -/
def f265c0 (X : Task → M Value) (L : LoopI) (x : ((Option Addr × Nat × Nat)) × Unit) (s0_ : ((Option Addr × Nat × Nat)) × (Int) × Unit) (v3_ : Int) (v4_ : Int) : M ((((Option Addr × Nat × Nat)) × (Int) × Unit) ⊕ ((((Option Addr × Nat × Nat)) × Unit) ⊕ (Unit))) :=
 M.guard (decide (0 ≤ v4_) && decide (v4_ ≤ ((x.1.2.2 : Nat) : Int)))
 (let v5_ : Nat := (Int.toNat v4_)
 M.guard (decide (0 ≤ v3_) && decide (v3_ ≤ ((v5_ : Nat) : Int)))
 (let v6_ : Nat := (Int.toNat v3_)
 M.guard (decide (0 ≤ s0_.2.1) && decide (s0_.2.1 ≤ ((v6_ : Nat) : Int)))
 (let v7_ : Nat := (Int.toNat s0_.2.1)
 M.new (.cells (Row.ofList [(.slice (x.1.1.map (·.add (v7_ * 1))) (v6_ - v7_) (v5_ - v7_))]) 30 false (0, 0) false) fun b8_ =>
 M.append 30 1 24 s0_.1.1 s0_.1.2.1 s0_.1.2.2 (.slice (some (Addr.mk b8_ 0 none)) 1 1) fun a9_ n10_ c11_ =>
 M.pure (.inl ((a9_, n10_, c11_), (IntKind.i64.wrap (s0_.2.1 + 448)), ())))))
def f265 (X : Task → M Value) (L : LoopI) (x : ((Option Addr × Nat × Nat)) × Unit) : M Value :=
 M.bind (L (σ := ((Option Addr × Nat × Nat)) × (Int) × Unit) (ρ := (((Option Addr × Nat × Nat)) × Unit) ⊕ (Unit)) (fun s0_ =>
 M.ite (decide (s0_.2.1 < ((x.1.2.1 : Nat) : Int)))
 (f265c0 X L x s0_ (IntKind.i64.wrap (s0_.2.1 + 448)) (IntKind.i64.wrap (s0_.2.1 + 448)))
 (M.pure (.inr (.inl (s0_.1, ()))))) ((none, 0, 0), 0, ())) <| M.sum (fun (j13_ : ((Option Addr × Nat × Nat)) × Unit) =>
 M.pure (.slice j13_.1.1 j13_.1.2.1 j13_.1.2.2)) (fun _ => M.stuck)

theorem e265 (X : Task → M Value) (L : LoopI) (x : ((Option Addr × Nat × Nat)) × Unit) : evBody CC { call := X, loop := L } 265 (shsInj [(.cell .slice)] x) = f265 X L x := by kernel_rfl

/-- (*hayrick/array.Array).On -/
def f266c0 (X : Task → M Value) (L : LoopI) (x : (Option Addr) × (Int) × Unit) (go1_ : ((Bool) × Unit) → M (Value)) : M (Value) :=
 M.deref x.1 fun a5_ =>
 M.load (.cell .slice) 1 (a5_.add 1) fun (x6_ : (Option Addr × Nat × Nat)) =>
 M.ite (decide (x.2.1 < ((x6_.2.1 : Nat) : Int)))
 (M.deref x.1 fun a9_ =>
 M.load (.cell .slice) 1 (a9_.add 1) fun (x10_ : (Option Addr × Nat × Nat)) =>
 M.guard (decide (0 ≤ x.2.1) && decide (x.2.1 < ((x10_.2.1 : Nat) : Int)))
 (M.deref x10_.1 fun a11_ =>
 M.load (.cell .slice) 1 (a11_.add ((Int.toNat x.2.1) * 1)) fun (x12_ : (Option Addr × Nat × Nat)) =>
 go1_ ((!x12_.1.isNone), ())))
 (go1_ (false, ()))
def f266 (X : Task → M Value) (L : LoopI) (x : (Option Addr) × (Int) × Unit) : M Value :=
 M.join (fun (j0_ : (Bool) × Unit) =>
 M.pure (.bool j0_.1)) fun go1_ =>
 M.eqPtr x.1 none fun (q2_ : Bool) =>
 M.ite (!q2_)
 (M.ite (decide (x.2.1 ≥ 0))
 (f266c0 X L x go1_)
 (go1_ (false, ())))
 (go1_ (false, ()))

theorem e266 (X : Task → M Value) (L : LoopI) (x : (Option Addr) × (Int) × Unit) : evBody CC { call := X, loop := L } 266 (shsInj [(.cell .ptr), (.cell (.int .i64))] x) = f266 X L x := by kernel_rfl

/-- (*hayrick/stripe.Stripes).put -/
def f267c0 (X : Task → M Value) (L : LoopI) (x : (Option Addr) × (Int) × (Int) × (Int) × ((Option Addr × Nat × Nat)) × Unit) (s3_ : (Int) × Unit) (x6_ : (Option Addr × Nat × Nat)) (a7_ : Addr) : M (((Int) × Unit) ⊕ ((Unit) ⊕ (((Int) × Unit) ⊕ (Unit)))) :=
 M.load (.cell .ptr) 1 (a7_.add 0) fun (x8_ : Option Addr) =>
 M.deref x.1 fun a9_ =>
 M.load (.cell (.int .i64)) 1 (a9_.add 4) fun (x10_ : Int) =>
 M.callS (.one (.cell (.int .i64))) (X (.call 316 [(.pointer x8_), (.int .i64 x.2.1), (.int .i64 (IntKind.i64.wrap ((IntKind.i64.wrap (x10_ + (IntKind.i64.wrap (x.2.2.1 * 8)))) + s3_.1))), (.slice x6_.1 x6_.2.1 x6_.2.2)])) fun (r14_ : Int) =>
 M.ite (!(r14_ == 0))
 (M.pure (.inr (.inr (.inl (r14_, ())))))
 (M.pure (.inl ((IntKind.i64.wrap (s3_.1 + 1)), ())))
def f267c1 (X : Task → M Value) (L : LoopI) (x : (Option Addr) × (Int) × (Int) × (Int) × ((Option Addr × Nat × Nat)) × Unit) (r0_ : ((Option Addr × Nat × Nat)) × (Int) × Unit) (v2_ : Int) : M (Value) :=
 M.bind (L (σ := (Int) × Unit) (ρ := (Unit) ⊕ (((Int) × Unit) ⊕ (Unit))) (fun s3_ =>
 M.ite (decide (s3_.1 < v2_))
 (M.guard (decide (0 ≤ s3_.1) && decide (s3_.1 < ((r0_.1.2.1 : Nat) : Int)))
 (M.deref r0_.1.1 fun a5_ =>
 M.load (.cell .slice) 1 (a5_.add ((Int.toNat s3_.1) * 1)) fun (x6_ : (Option Addr × Nat × Nat)) =>
 M.deref x.1 fun a7_ =>
 f267c0 X L x s3_ x6_ a7_))
 (M.pure (.inr (.inl (()))))) (0, ())) <| M.sum (fun (j17_ : Unit) =>
 M.pure (.int .i64 0)) (M.sum (fun (j18_ : (Int) × Unit) =>
 M.pure (.int .i64 j18_.1)) (fun _ => M.stuck))
def f267 (X : Task → M Value) (L : LoopI) (x : (Option Addr) × (Int) × (Int) × (Int) × ((Option Addr × Nat × Nat)) × Unit) : M Value :=
 M.callS (.tuple [(.cell .slice), (.cell (.int .i64))]) (X (.call 315 [(.int .u64 x.2.2.2.1), (.slice x.2.2.2.2.1.1 x.2.2.2.2.1.2.1 x.2.2.2.2.1.2.2)])) fun (r0_ : ((Option Addr × Nat × Nat)) × (Int) × Unit) =>
 M.ite (!(r0_.2.1 == 0))
 (M.pure (.int .i64 r0_.2.1))
 (f267c1 X L x r0_ ((r0_.1.2.1 : Nat) : Int))

theorem e267 (X : Task → M Value) (L : LoopI) (x : (Option Addr) × (Int) × (Int) × (Int) × ((Option Addr × Nat × Nat)) × Unit) : evBody CC { call := X, loop := L } 267 (shsInj [(.cell .ptr), (.cell (.int .i64)), (.cell (.int .i64)), (.cell (.int .u64)), (.cell .slice)] x) = f267 X L x := by kernel_rfl

/-- hayrick/hayrickref14.Form -/
def f268c0 (X : Task → M Value) (L : LoopI) (b0_ : Nat) (j1_ : (Int) × Unit) (v4_ : Int) (x5_ : Int) : M (Value) :=
 M.guard (!(decide (256 = 0)))
 (M.load (.cell (.int .i64)) 1 ((Addr.mk b0_ 0 none).add 2) fun (x8_ : Int) =>
 M.guard (!(decide (256 = 0)))
 (M.load (.cell (.int .i64)) 1 ((Addr.mk b0_ 0 none).add 3) fun (x11_ : Int) =>
 M.new (.cells (Row.ofList [(.int .u8 v4_), (.int .u8 j1_.1), (.int .u8 (IntKind.u8.wrap (IntKind.i64.wrap ((x5_ : Int).tdiv 256)))), (.int .u8 (IntKind.u8.wrap ((x8_ : Int).tmod 256))), (.int .u8 0), (.int .u8 0), (.int .u8 0), (.int .u8 (IntKind.u8.wrap x11_))]) 5 false (0, 0) false) fun b13_ =>
 M.pure (.slice (some (Addr.mk b13_ 0 none)) 8 8)))
def f268c1 (X : Task → M Value) (L : LoopI) (x : (Int × Bool × Int × Int × Unit) × Unit) : M (Value) :=
 M.new (.cells (Row.ofList [(.int .i64 x.1.1), (.bool x.1.2.1), (.int .i64 x.1.2.2.1), (.int .i64 x.1.2.2.2.1)]) 226 false (0, 0) false) fun b0_ =>
 M.join (fun (j1_ : (Int) × Unit) =>
 M.load (.cell (.int .i64)) 1 ((Addr.mk b0_ 0 none).add 0) fun (x3_ : Int) =>
 M.load (.cell (.int .i64)) 1 ((Addr.mk b0_ 0 none).add 2) fun (x5_ : Int) =>
 f268c0 X L b0_ j1_ (IntKind.u8.wrap x3_) x5_) fun go2_ =>
 M.load (.cell .bool) 1 ((Addr.mk b0_ 0 none).add 1) fun (x14_ : Bool) =>
 M.ite x14_
 (go2_ (1, ()))
 (go2_ (0, ()))
def f268 (X : Task → M Value) (L : LoopI) (x : (Int × Bool × Int × Int × Unit) × Unit) : M Value :=
 f268c1 X L x

theorem e268 (X : Task → M Value) (L : LoopI) (x : (Int × Bool × Int × Int × Unit) × Unit) : evBody CC { call := X, loop := L } 268 (shsInj [(.agg [(.int .i64), .bool, (.int .i64), (.int .i64)])] x) = f268 X L x := by kernel_rfl

/-- (*hayrick/hayrickref08.Stripes).why -/
def f269c0 (X : Task → M Value) (L : LoopI) (x : (Option Addr) × (Int) × (Int) × Unit) (x3_ : Bool) : M (Value) :=
 M.ite x3_
 (M.pure (.int .i64 8))
 (M.join (fun (j4_ : (Bool) × Unit) =>
 M.ite j4_.1
 (M.pure (.int .i64 6))
 (M.pure (.int .i64 0))) fun go5_ =>
 M.ite (decide (x.2.2.1 < 0))
 (go5_ (true, ()))
 (M.deref x.1 fun a7_ =>
 M.load (.cell (.int .i64)) 1 ((a7_.add 1).add 2) fun (x8_ : Int) =>
 M.ite (decide (x.2.2.1 ≥ x8_))
 (go5_ (true, ()))
 (M.ite (decide (x.2.1 < 0))
 (go5_ (true, ()))
 (M.deref x.1 fun a11_ =>
 M.load (.cell (.int .i64)) 1 ((a11_.add 1).add 1) fun (x12_ : Int) =>
 go5_ ((decide (x.2.1 ≥ x12_)), ())))))
def f269 (X : Task → M Value) (L : LoopI) (x : (Option Addr) × (Int) × (Int) × Unit) : M Value :=
 M.deref x.1 fun a0_ =>
 M.load (.cell .ptr) 1 (a0_.add 0) fun (x1_ : Option Addr) =>
 M.deref x1_ fun a2_ =>
 M.load (.cell .bool) 1 (a2_.add 4) fun (x3_ : Bool) =>
 f269c0 X L x x3_

theorem e269 (X : Task → M Value) (L : LoopI) (x : (Option Addr) × (Int) × (Int) × Unit) : evBody CC { call := X, loop := L } 269 (shsInj [(.cell .ptr), (.cell (.int .i64)), (.cell (.int .i64))] x) = f269 X L x := by kernel_rfl

/-- (*hayrick/hayrickref06.Array).Ons -/
def f270c0 (X : Task → M Value) (L : LoopI) (x : (Option Addr) × Unit) (s0_ : (Int) × (Int) × Unit) (v4_ : Bool) : M (((Int) × (Int) × Unit) ⊕ (((Int) × Unit) ⊕ (Unit))) :=
 M.ite v4_
 (M.join (fun (j5_ : (Int) × Unit) =>
 M.pure (.inl (j5_.1, (IntKind.i64.wrap (s0_.2.1 + 1)), ()))) fun go6_ =>
 M.deref x.1 fun a8_ =>
 M.load (.cell .slice) 1 (a8_.add 0) fun (x9_ : (Option Addr × Nat × Nat)) =>
 M.guard (decide (0 ≤ s0_.2.1) && decide (s0_.2.1 < ((x9_.2.1 : Nat) : Int)))
 (M.deref x9_.1 fun a10_ =>
 M.load (.cell .bool) 1 ((a10_.add ((Int.toNat s0_.2.1) * 2)).add 1) fun (x11_ : Bool) =>
 M.ite (!x11_)
 (go6_ ((IntKind.i64.wrap (s0_.1 + 1)), ()))
 (go6_ (s0_.1, ()))))
 (M.pure (.inr (.inl (s0_.1, ()))))
def f270 (X : Task → M Value) (L : LoopI) (x : (Option Addr) × Unit) : M Value :=
 M.bind (L (σ := (Int) × (Int) × Unit) (ρ := ((Int) × Unit) ⊕ (Unit)) (fun s0_ =>
 M.deref x.1 fun a1_ =>
 M.load (.cell .slice) 1 (a1_.add 0) fun (x2_ : (Option Addr × Nat × Nat)) =>
 f270c0 X L x s0_ (decide (s0_.2.1 < ((x2_.2.1 : Nat) : Int)))) (0, 0, ())) <| M.sum (fun (j14_ : (Int) × Unit) =>
 M.pure (.int .i64 j14_.1)) (fun _ => M.stuck)

theorem e270 (X : Task → M Value) (L : LoopI) (x : (Option Addr) × Unit) : evBody CC { call := X, loop := L } 270 (shsInj [(.cell .ptr)] x) = f270 X L x := by kernel_rfl

/-- hayrick/hayrickref04.Encode -/
def f271c0 (X : Task → M Value) (L : LoopI) (v12_ : Int) (b13_ : Nat) (s14_ : (Int) × Unit) (s17_ : (Int) × Unit) (x19_ : Int) (x23_ : Int) (a26_ : Addr) : M (((Int) × Unit) ⊕ ((Unit) ⊕ (Unit))) :=
 M.load (.cell (.int .u8)) 1 (a26_.add ((Int.toNat s14_.1) * 1)) fun (x27_ : Int) =>
 M.callS (.one (.cell (.int .u8))) (X (.call 319 [(.int .u8 x23_), (.int .u8 x27_)])) fun (r28_ : Int) =>
 M.load (.cell (.int .u8)) 1 ((Addr.mk b13_ 0 none).add ((Int.toNat s14_.1) * 1)) fun (x29_ : Int) => cond (veqv (.int .u8 x29_) (.int .u8 x19_)) (M.guard (decide (0 ≤ s14_.1) && decide (s14_.1 < (((Int.toNat v12_) : Nat) : Int)))
 (M.store ((Addr.mk b13_ 0 none).add ((Int.toNat s14_.1) * 1)) [(.int .u8 (bitsV .xor .u8 x19_ r28_))]
 (M.pure (.inl ((IntKind.i64.wrap (s17_.1 + 1)), ()))))) M.stuck
def f271c1 (X : Task → M Value) (L : LoopI) (x : (Int) × (Int) × ((Option Addr × Nat × Nat)) × Unit) (v12_ : Int) (b13_ : Nat) (s14_ : (Int) × Unit) (s17_ : (Int) × Unit) (x19_ : Int) (x21_ : (Option Addr × Nat × Nat)) : M (((Int) × Unit) ⊕ ((Unit) ⊕ (Unit))) :=
 M.guard (decide (0 ≤ s17_.1) && decide (s17_.1 < ((x21_.2.1 : Nat) : Int)))
 (M.deref x21_.1 fun a22_ =>
 M.load (.cell (.int .u8)) 1 (a22_.add ((Int.toNat s17_.1) * 1)) fun (x23_ : Int) =>
 M.guard (decide (0 ≤ s17_.1) && decide (s17_.1 < ((x.2.2.1.2.1 : Nat) : Int)))
 (M.deref x.2.2.1.1 fun a24_ =>
 M.load (.cell .slice) 1 (a24_.add ((Int.toNat s17_.1) * 1)) fun (x25_ : (Option Addr × Nat × Nat)) =>
 M.guard (decide (0 ≤ s14_.1) && decide (s14_.1 < ((x25_.2.1 : Nat) : Int)))
 (M.deref x25_.1 fun a26_ =>
 f271c0 X L v12_ b13_ s14_ s17_ x19_ x23_ a26_)))
def f271c2 (X : Task → M Value) (L : LoopI) (x : (Int) × (Int) × ((Option Addr × Nat × Nat)) × Unit) (r7_ : ((Option Addr × Nat × Nat)) × (Int) × Unit) (s8_ : ((Option Addr × Nat × Nat)) × (Int) × Unit) (v12_ : Int) (b13_ : Nat) (s14_ : (Int) × Unit) (s17_ : (Int) × Unit) : M (((Int) × Unit) ⊕ ((Unit) ⊕ (Unit))) :=
 M.ite (decide (s17_.1 < x.1))
 (M.guard (decide (0 ≤ s14_.1) && decide (s14_.1 < (((Int.toNat v12_) : Nat) : Int)))
 (M.load (.cell (.int .u8)) 1 ((Addr.mk b13_ 0 none).add ((Int.toNat s14_.1) * 1)) fun (x19_ : Int) =>
 M.guard (decide (0 ≤ s8_.2.1) && decide (s8_.2.1 < ((r7_.1.2.1 : Nat) : Int)))
 (M.deref r7_.1.1 fun a20_ =>
 M.load (.cell .slice) 1 (a20_.add ((Int.toNat s8_.2.1) * 1)) fun (x21_ : (Option Addr × Nat × Nat)) =>
 f271c1 X L x v12_ b13_ s14_ s17_ x19_ x21_)))
 (M.pure (.inr (.inl (()))))
def f271c3 (X : Task → M Value) (L : LoopI) (x : (Int) × (Int) × ((Option Addr × Nat × Nat)) × Unit) (r7_ : ((Option Addr × Nat × Nat)) × (Int) × Unit) (s8_ : ((Option Addr × Nat × Nat)) × (Int) × Unit) (v12_ : Int) (b13_ : Nat) : M ((((Option Addr × Nat × Nat)) × (Int) × Unit) ⊕ ((((Option Addr × Nat × Nat)) × Unit) ⊕ (Unit))) :=
 M.bind (L (σ := (Int) × Unit) (ρ := (Unit) ⊕ (Unit)) (fun s14_ =>
 M.ite (decide (s14_.1 < (((Int.toNat v12_) : Nat) : Int)))
 (M.bind (L (σ := (Int) × Unit) (ρ := (Unit) ⊕ (Unit)) (fun s17_ =>
 f271c2 X L x r7_ s8_ v12_ b13_ s14_ s17_) (0, ())) <| M.sum (fun (j32_ : Unit) =>
 M.pure (.inl ((IntKind.i64.wrap (s14_.1 + 1)), ()))) (fun _ => M.stuck))
 (M.pure (.inr (.inl (()))))) (0, ())) <| M.sum (fun (j34_ : Unit) =>
 M.new (.cells (Row.ofList [(.slice (some (Addr.mk b13_ 0 none)) (Int.toNat v12_) (Int.toNat v12_))]) 30 false (0, 0) false) fun b35_ =>
 M.append 30 1 24 s8_.1.1 s8_.1.2.1 s8_.1.2.2 (.slice (some (Addr.mk b35_ 0 none)) 1 1) fun a36_ n37_ c38_ =>
 M.pure (.inl ((a36_, n37_, c38_), (IntKind.i64.wrap (s8_.2.1 + 1)), ()))) (fun _ => M.stuck)
def f271c4 (X : Task → M Value) (L : LoopI) (x : (Int) × (Int) × ((Option Addr × Nat × Nat)) × Unit) (r7_ : ((Option Addr × Nat × Nat)) × (Int) × Unit) (s8_ : ((Option Addr × Nat × Nat)) × (Int) × Unit) : M ((((Option Addr × Nat × Nat)) × (Int) × Unit) ⊕ ((((Option Addr × Nat × Nat)) × Unit) ⊕ (Unit))) :=
 M.ite (decide (s8_.2.1 < x.2.1))
 (M.guard (decide (0 ≤ 0) && decide (0 < ((x.2.2.1.2.1 : Nat) : Int)))
 (M.deref x.2.2.1.1 fun a10_ =>
 M.load (.cell .slice) 1 (a10_.add ((Int.toNat 0) * 1)) fun (x11_ : (Option Addr × Nat × Nat)) =>
 let v12_ : Int := ((x11_.2.1 : Nat) : Int)
 M.guard (decide (0 ≤ v12_) && decide (v12_ ≤ v12_) && decide ((1 : Int) * v12_ ≤ 2 ^ 48))
 (M.new (.cells (Row.rep [(.int .u8 0)] (Int.toNat v12_)) 5 false (0, 0) false) fun b13_ =>
 f271c3 X L x r7_ s8_ v12_ b13_)))
 (M.pure (.inr (.inl (s8_.1, ()))))
def f271c5 (X : Task → M Value) (L : LoopI) (x : (Int) × (Int) × ((Option Addr × Nat × Nat)) × Unit) (v5_ : Bool) : M (Value) :=
 M.ite v5_
 (M.guard (decide (0 ≤ x.2.1) && decide (x.2.1 ≤ x.2.1) && decide ((24 : Int) * x.2.1 ≤ 2 ^ 48))
 (M.new (.cells (Row.rep [(.slice none 0 0)] (Int.toNat x.2.1)) 30 false (0, 0) false) fun b6_ =>
 M.pure (.tuple ⟨[(.slice (some (Addr.mk b6_ 0 none)) (Int.toNat x.2.1) (Int.toNat x.2.1)), (.int .i64 0)]⟩)))
 (M.callS (.tuple [(.cell .slice), (.cell (.int .i64))]) (X (.call 318 [(.int .i64 x.1), (.int .i64 x.2.1)])) fun (r7_ : ((Option Addr × Nat × Nat)) × (Int) × Unit) =>
 M.bind (L (σ := ((Option Addr × Nat × Nat)) × (Int) × Unit) (ρ := (((Option Addr × Nat × Nat)) × Unit) ⊕ (Unit)) (fun s8_ =>
 f271c4 X L x r7_ s8_) ((none, 0, 0), 0, ())) <| M.sum (fun (j40_ : ((Option Addr × Nat × Nat)) × Unit) =>
 M.pure (.tuple ⟨[(.slice j40_.1.1 j40_.1.2.1 j40_.1.2.2), (.int .i64 0)]⟩)) (fun _ => M.stuck))
def f271c6 (X : Task → M Value) (L : LoopI) (x : (Int) × (Int) × ((Option Addr × Nat × Nat)) × Unit) : M (Value) :=
 M.join (fun (j0_ : (Bool) × Unit) =>
 M.ite j0_.1
 (M.pure (.tuple ⟨[(.slice none 0 0), (.int .i64 1)]⟩))
 (M.guard (decide (0 ≤ 0) && decide (0 < ((x.2.2.1.2.1 : Nat) : Int)))
 (M.deref x.2.2.1.1 fun a2_ =>
 M.load (.cell .slice) 1 (a2_.add ((Int.toNat 0) * 1)) fun (x3_ : (Option Addr × Nat × Nat)) =>
 f271c5 X L x (((x3_.2.1 : Nat) : Int) == 0)))) fun go1_ =>
 M.callS (.one (.cell .bool)) (X (.call 248 [(.int .i64 x.1), (.int .i64 x.2.1)])) fun (r41_ : Bool) =>
 M.ite (!r41_)
 (go1_ (true, ()))
 (M.ite (!(((x.2.2.1.2.1 : Nat) : Int) == x.1))
 (go1_ (true, ()))
 (M.callS (.one (.cell .bool)) (X (.call 317 [(.slice x.2.2.1.1 x.2.2.1.2.1 x.2.2.1.2.2)])) fun (r45_ : Bool) =>
 go1_ ((!r45_), ())))
def f271 (X : Task → M Value) (L : LoopI) (x : (Int) × (Int) × ((Option Addr × Nat × Nat)) × Unit) : M Value :=
 f271c6 X L x

theorem e271 (X : Task → M Value) (L : LoopI) (x : (Int) × (Int) × ((Option Addr × Nat × Nat)) × Unit) : evBody CC { call := X, loop := L } 271 (shsInj [(.cell (.int .i64)), (.cell (.int .i64)), (.cell .slice)] x) = f271 X L x := by kernel_rfl

/-- (*hayrick/hayrickref06.Array).On -/
def f272c0 (X : Task → M Value) (L : LoopI) (x : (Option Addr) × (Int) × Unit) (go1_ : ((Bool) × Unit) → M (Value)) (v2_ : Bool) : M (Value) :=
 M.ite v2_
 (M.deref x.1 fun a3_ =>
 M.load (.cell .slice) 1 (a3_.add 0) fun (x4_ : (Option Addr × Nat × Nat)) =>
 M.ite (decide (x.2.1 < ((x4_.2.1 : Nat) : Int)))
 (M.deref x.1 fun a7_ =>
 M.load (.cell .slice) 1 (a7_.add 0) fun (x8_ : (Option Addr × Nat × Nat)) =>
 M.guard (decide (0 ≤ x.2.1) && decide (x.2.1 < ((x8_.2.1 : Nat) : Int)))
 (M.deref x8_.1 fun a9_ =>
 M.load (.cell .bool) 1 ((a9_.add ((Int.toNat x.2.1) * 2)).add 1) fun (x10_ : Bool) =>
 go1_ ((!x10_), ())))
 (go1_ (false, ())))
 (go1_ (false, ()))
def f272 (X : Task → M Value) (L : LoopI) (x : (Option Addr) × (Int) × Unit) : M Value :=
 M.join (fun (j0_ : (Bool) × Unit) =>
 M.pure (.bool j0_.1)) fun go1_ =>
 f272c0 X L x go1_ (decide (x.2.1 ≥ 0))

theorem e272 (X : Task → M Value) (L : LoopI) (x : (Option Addr) × (Int) × Unit) : evBody CC { call := X, loop := L } 272 (shsInj [(.cell .ptr), (.cell (.int .i64))] x) = f272 X L x := by kernel_rfl

/-- (*hayrick/hayrickref08.Stripes).put -/
def f273c0 (X : Task → M Value) (L : LoopI) (x : (Option Addr) × (Int) × (Int) × (Int) × ((Option Addr × Nat × Nat)) × Unit) (r0_ : ((Option Addr × Nat × Nat)) × (Int) × Unit) (s1_ : (Int) × Unit) (x5_ : Option Addr) (v9_ : Int) : M (((Int) × Unit) ⊕ ((Unit) ⊕ (((Int) × Unit) ⊕ (Unit)))) :=
 M.guard (decide (0 ≤ s1_.1) && decide (s1_.1 < ((r0_.1.2.1 : Nat) : Int)))
 (M.deref r0_.1.1 fun a11_ =>
 M.load (.cell .slice) 1 (a11_.add ((Int.toNat s1_.1) * 1)) fun (x12_ : (Option Addr × Nat × Nat)) =>
 M.callS (.one (.cell (.int .i64))) (X (.call 321 [(.pointer x5_), (.int .i64 x.2.1), (.int .i64 (IntKind.i64.wrap (v9_ + s1_.1))), (.slice x12_.1 x12_.2.1 x12_.2.2)])) fun (r13_ : Int) =>
 M.ite (!(r13_ == 0))
 (M.pure (.inr (.inr (.inl (r13_, ())))))
 (M.pure (.inl ((IntKind.i64.wrap (s1_.1 + 1)), ()))))
def f273c1 (X : Task → M Value) (L : LoopI) (x : (Option Addr) × (Int) × (Int) × (Int) × ((Option Addr × Nat × Nat)) × Unit) (r0_ : ((Option Addr × Nat × Nat)) × (Int) × Unit) : M (Value) :=
 M.bind (L (σ := (Int) × Unit) (ρ := (Unit) ⊕ (((Int) × Unit) ⊕ (Unit))) (fun s1_ =>
 M.ite (decide (s1_.1 < ((r0_.1.2.1 : Nat) : Int)))
 (M.deref x.1 fun a4_ =>
 M.load (.cell .ptr) 1 (a4_.add 0) fun (x5_ : Option Addr) =>
 M.deref x.1 fun a6_ =>
 M.load (.cell (.int .i64)) 1 (a6_.add 4) fun (x7_ : Int) =>
 f273c0 X L x r0_ s1_ x5_ (IntKind.i64.wrap (x7_ + (IntKind.i64.wrap (8 * x.2.2.1)))))
 (M.pure (.inr (.inl (()))))) (0, ())) <| M.sum (fun (j16_ : Unit) =>
 M.pure (.int .i64 0)) (M.sum (fun (j17_ : (Int) × Unit) =>
 M.pure (.int .i64 j17_.1)) (fun _ => M.stuck))
def f273 (X : Task → M Value) (L : LoopI) (x : (Option Addr) × (Int) × (Int) × (Int) × ((Option Addr × Nat × Nat)) × Unit) : M Value :=
 M.callS (.tuple [(.cell .slice), (.cell (.int .i64))]) (X (.call 320 [(.int .u64 x.2.2.2.1), (.slice x.2.2.2.2.1.1 x.2.2.2.2.1.2.1 x.2.2.2.2.1.2.2)])) fun (r0_ : ((Option Addr × Nat × Nat)) × (Int) × Unit) =>
 f273c1 X L x r0_

theorem e273 (X : Task → M Value) (L : LoopI) (x : (Option Addr) × (Int) × (Int) × (Int) × ((Option Addr × Nat × Nat)) × Unit) : evBody CC { call := X, loop := L } 273 (shsInj [(.cell .ptr), (.cell (.int .i64)), (.cell (.int .i64)), (.cell (.int .u64)), (.cell .slice)] x) = f273 X L x := by kernel_rfl

/-- hayrick/hayrickref11.num -/
def f295c0 (X : Task → M Value) (L : LoopI) (x : ((Option Addr × Nat × Nat)) × (Int) × (Int) × (Int) × Unit) (v1_ : Int) : M (Value) :=
 M.bind (L (σ := (Int) × (Int) × Unit) (ρ := (Unit) ⊕ (Unit)) (fun s2_ =>
 M.ite (decide (s2_.2.1 ≥ x.2.1))
 (M.guard (!(decide (256 = 0)))
 (M.guard (decide (0 ≤ s2_.2.1) && decide (s2_.2.1 < ((x.1.2.1 : Nat) : Int)))
 (M.deref x.1.1 fun a6_ =>
 M.store (a6_.add ((Int.toNat s2_.2.1) * 1)) [(.int .u8 (IntKind.u8.wrap ((s2_.1 : Int).tmod 256)))]
 (M.guard (!(decide (256 = 0)))
 (M.pure (.inl ((IntKind.u64.wrap ((s2_.1 : Int).tdiv 256)), (IntKind.i64.wrap (s2_.2.1 - 1)), ())))))))
 (M.pure (.inr (.inl (()))))) (x.2.2.2.1, v1_, ())) <| M.sum (fun (j9_ : Unit) =>
 M.pure (.tuple ⟨[]⟩)) (fun _ => M.stuck)
def f295 (X : Task → M Value) (L : LoopI) (x : ((Option Addr × Nat × Nat)) × (Int) × (Int) × (Int) × Unit) : M Value :=
 f295c0 X L x (IntKind.i64.wrap ((IntKind.i64.wrap (x.2.1 + x.2.2.1)) - 1))

theorem e295 (X : Task → M Value) (L : LoopI) (x : ((Option Addr × Nat × Nat)) × (Int) × (Int) × (Int) × Unit) : evBody CC { call := X, loop := L } 295 (shsInj [(.cell .slice), (.cell (.int .i64)), (.cell (.int .i64)), (.cell (.int .u64))] x) = f295 X L x := by kernel_rfl

/-- hayrick/hayrickref10.Runes -/
def f296c0 (X : Task → M Value) (L : LoopI) (x : (ByteArray) × Unit) (s0_ : ((Option Addr × Nat × Nat)) × (Int) × Unit) : M ((((Option Addr × Nat × Nat)) × (Int) × Unit) ⊕ ((((Option Addr × Nat × Nat)) × Unit) ⊕ (Unit))) :=
 M.guard (decide (0 ≤ s0_.2.1) && decide (s0_.2.1 ≤ ((x.1.size : Nat) : Int)))
 (M.callS (.tuple [(.cell (.int .i32)), (.cell (.int .i64)), (.cell .bool)]) (X (.call 306 [(.string (x.1.extract (Int.toNat s0_.2.1) x.1.size))])) fun (r5_ : (Int) × (Int) × (Bool) × Unit) =>
 M.new (.cells (Row.ofList [(.int .i32 r5_.1)]) 21 false (0, 0) false) fun b6_ =>
 M.append 21 1 4 s0_.1.1 s0_.1.2.1 s0_.1.2.2 (.slice (some (Addr.mk b6_ 0 none)) 1 1) fun a7_ n8_ c9_ =>
 M.pure (.inl ((a7_, n8_, c9_), (IntKind.i64.wrap (s0_.2.1 + r5_.2.1)), ())))
def f296 (X : Task → M Value) (L : LoopI) (x : (ByteArray) × Unit) : M Value :=
 M.bind (L (σ := ((Option Addr × Nat × Nat)) × (Int) × Unit) (ρ := (((Option Addr × Nat × Nat)) × Unit) ⊕ (Unit)) (fun s0_ =>
 M.ite (decide (s0_.2.1 < ((x.1.size : Nat) : Int)))
 (f296c0 X L x s0_)
 (M.pure (.inr (.inl (s0_.1, ()))))) ((none, 0, 0), 0, ())) <| M.sum (fun (j11_ : ((Option Addr × Nat × Nat)) × Unit) =>
 M.pure (.slice j11_.1.1 j11_.1.2.1 j11_.1.2.2)) (fun _ => M.stuck)

theorem e296 (X : Task → M Value) (L : LoopI) (x : (ByteArray) × Unit) : evBody CC { call := X, loop := L } 296 (shsInj [(.cell .string)] x) = f296 X L x := by kernel_rfl

/-- hayrick/points.All -/
def f298c0 (X : Task → M Value) (L : LoopI) (x : (Int × Int × Int × Int × Int × Int × Int × Int × Int × Int × Int × Unit) × ((Option Addr × Nat × Nat)) × Unit) (s6_ : ((Option Addr × Nat × Nat)) × (Int) × Unit) (r8_ : (Bool) × (Int) × (Bool) × Unit) (go10_ : (((Option Addr × Nat × Nat)) × Unit) → M ((((Option Addr × Nat × Nat)) × (Int) × Unit) ⊕ ((((Option Addr × Nat × Nat)) × Unit) ⊕ (Unit)))) (v18_ : Bool) : M ((((Option Addr × Nat × Nat)) × (Int) × Unit) ⊕ ((((Option Addr × Nat × Nat)) × Unit) ⊕ (Unit))) :=
 M.ite v18_
 (M.guard (decide (0 ≤ r8_.2.1) && decide (r8_.2.1 < ((x.2.1.2.1 : Nat) : Int)))
 (M.deref x.2.1.1 fun a19_ =>
 M.load (.cell (.int .u32)) 1 (a19_.add ((Int.toNat r8_.2.1) * 1)) fun (x20_ : Int) =>
 M.new (.cells (Row.ofList [(.int .u32 x20_)]) 86 false (0, 0) false) fun b21_ =>
 M.append 86 1 4 s6_.1.1 s6_.1.2.1 s6_.1.2.2 (.slice (some (Addr.mk b21_ 0 none)) 1 1) fun a22_ n23_ c24_ =>
 go10_ ((a22_, n23_, c24_), ())))
 (M.new (.cells (Row.ofList [(.int .u32 0)]) 86 false (0, 0) false) fun b25_ =>
 M.append 86 1 4 s6_.1.1 s6_.1.2.1 s6_.1.2.2 (.slice (some (Addr.mk b25_ 0 none)) 1 1) fun a26_ n27_ c28_ =>
 go10_ ((a26_, n27_, c28_), ()))
def f298c1 (X : Task → M Value) (L : LoopI) (x : (Int × Int × Int × Int × Int × Int × Int × Int × Int × Int × Int × Unit) × ((Option Addr × Nat × Nat)) × Unit) (b0_ : Nat) (s6_ : ((Option Addr × Nat × Nat)) × (Int) × Unit) (r8_ : (Bool) × (Int) × (Bool) × Unit) : M ((((Option Addr × Nat × Nat)) × (Int) × Unit) ⊕ ((((Option Addr × Nat × Nat)) × Unit) ⊕ (Unit))) :=
 M.join (fun (j9_ : ((Option Addr × Nat × Nat)) × Unit) =>
 M.pure (.inl (j9_.1, (IntKind.i64.wrap (s6_.2.1 + 1)), ()))) fun go10_ =>
 M.ite r8_.1
 (M.guard (decide (0 ≤ r8_.2.1) && decide (r8_.2.1 < ((6 : Nat) : Int)))
 (M.load (.cell (.int .u32)) 1 (((Addr.mk b0_ 0 none).add 4).add ((Int.toNat r8_.2.1) * 1)) fun (x12_ : Int) =>
 M.new (.cells (Row.ofList [(.int .u32 x12_)]) 86 false (0, 0) false) fun b13_ =>
 M.append 86 1 4 s6_.1.1 s6_.1.2.1 s6_.1.2.2 (.slice (some (Addr.mk b13_ 0 none)) 1 1) fun a14_ n15_ c16_ =>
 go10_ ((a14_, n15_, c16_), ())))
 (f298c0 X L x s6_ r8_ go10_ (decide (r8_.2.1 < ((x.2.1.2.1 : Nat) : Int))))
def f298c2 (X : Task → M Value) (L : LoopI) (x : (Int × Int × Int × Int × Int × Int × Int × Int × Int × Int × Int × Unit) × ((Option Addr × Nat × Nat)) × Unit) (b0_ : Nat) (r5_ : Int) : M (Value) :=
 M.bind (L (σ := ((Option Addr × Nat × Nat)) × (Int) × Unit) (ρ := (((Option Addr × Nat × Nat)) × Unit) ⊕ (Unit)) (fun s6_ =>
 M.ite (decide (s6_.2.1 < r5_))
 (M.callS (.tuple [(.cell .bool), (.cell (.int .i64)), (.cell .bool)]) (X (.call 327 [(.int .i64 s6_.2.1)])) fun (r8_ : (Bool) × (Int) × (Bool) × Unit) =>
 f298c1 X L x b0_ s6_ r8_)
 (M.pure (.inr (.inl (s6_.1, ()))))) ((none, 0, 0), 0, ())) <| M.sum (fun (j29_ : ((Option Addr × Nat × Nat)) × Unit) =>
 M.pure (.tuple ⟨[(.slice j29_.1.1 j29_.1.2.1 j29_.1.2.2), (.int .i64 0)]⟩)) (fun _ => M.stuck)
def f298c3 (X : Task → M Value) (L : LoopI) (x : (Int × Int × Int × Int × Int × Int × Int × Int × Int × Int × Int × Unit) × ((Option Addr × Nat × Nat)) × Unit) (b0_ : Nat) (x1_ : Int × Int × Int × Int × Int × Int × Int × Int × Int × Int × Int × Unit) : M (Value) :=
 M.callS (.one (.cell .bool)) (X (.call 102 [(.agg ⟨[(.int .i64 x1_.1), (.int .i64 x1_.2.1), (.int .i64 x1_.2.2.1), (.int .i64 x1_.2.2.2.1), (.int .u32 x1_.2.2.2.2.1), (.int .u32 x1_.2.2.2.2.2.1), (.int .u32 x1_.2.2.2.2.2.2.1), (.int .u32 x1_.2.2.2.2.2.2.2.1), (.int .u32 x1_.2.2.2.2.2.2.2.2.1), (.int .u32 x1_.2.2.2.2.2.2.2.2.2.1), (.int .u32 x1_.2.2.2.2.2.2.2.2.2.2.1)]⟩)])) fun (r2_ : Bool) =>
 M.ite (!r2_)
 (M.pure (.tuple ⟨[(.slice none 0 0), (.int .i64 1)]⟩))
 (M.load (.cell (.int .i64)) 1 ((Addr.mk b0_ 0 none).add 2) fun (x4_ : Int) =>
 M.callS (.one (.cell (.int .i64))) (X (.call 103 [(.int .i64 x4_)])) fun (r5_ : Int) =>
 f298c2 X L x b0_ r5_)
def f298c4 (X : Task → M Value) (L : LoopI) (x : (Int × Int × Int × Int × Int × Int × Int × Int × Int × Int × Int × Unit) × ((Option Addr × Nat × Nat)) × Unit) : M (Value) :=
 M.new (.cells (Row.ofList [(.int .i64 x.1.1), (.int .i64 x.1.2.1), (.int .i64 x.1.2.2.1), (.int .i64 x.1.2.2.2.1), (.int .u32 x.1.2.2.2.2.1), (.int .u32 x.1.2.2.2.2.2.1), (.int .u32 x.1.2.2.2.2.2.2.1), (.int .u32 x.1.2.2.2.2.2.2.2.1), (.int .u32 x.1.2.2.2.2.2.2.2.2.1), (.int .u32 x.1.2.2.2.2.2.2.2.2.2.1), (.int .u32 x.1.2.2.2.2.2.2.2.2.2.2.1)]) 117 false (0, 0) false) fun b0_ =>
 M.load (.agg [(.int .i64), (.int .i64), (.int .i64), (.int .i64), (.int .u32), (.int .u32), (.int .u32), (.int .u32), (.int .u32), (.int .u32), (.int .u32)]) 11 (Addr.mk b0_ 0 none) fun (x1_ : Int × Int × Int × Int × Int × Int × Int × Int × Int × Int × Int × Unit) =>
 f298c3 X L x b0_ x1_
def f298 (X : Task → M Value) (L : LoopI) (x : (Int × Int × Int × Int × Int × Int × Int × Int × Int × Int × Int × Unit) × ((Option Addr × Nat × Nat)) × Unit) : M Value :=
 f298c4 X L x

theorem e298 (X : Task → M Value) (L : LoopI) (x : (Int × Int × Int × Int × Int × Int × Int × Int × Int × Int × Int × Unit) × ((Option Addr × Nat × Nat)) × Unit) : evBody CC { call := X, loop := L } 298 (shsInj [(.agg [(.int .i64), (.int .i64), (.int .i64), (.int .i64), (.int .u32), (.int .u32), (.int .u32), (.int .u32), (.int .u32), (.int .u32), (.int .u32)]), (.cell .slice)] x) = f298 X L x := by kernel_rfl

/-- (*hayrick/stripe.Stripes).Read -/
def f299c0 (X : Task → M Value) (L : LoopI) (r24_ : ((Option Addr × Nat × Nat)) × (Int) × Unit) (v26_ : Int) : M (Value) :=
 M.bind (L (σ := ((Option Addr × Nat × Nat)) × (Int) × Unit) (ρ := (((Option Addr × Nat × Nat)) × Unit) ⊕ (Unit)) (fun s27_ =>
 M.ite (decide (s27_.2.1 < v26_))
 (M.guard (decide (0 ≤ s27_.2.1) && decide (s27_.2.1 < ((r24_.1.2.1 : Nat) : Int)))
 (M.deref r24_.1.1 fun a29_ =>
 M.load (.cell .slice) 1 (a29_.add ((Int.toNat s27_.2.1) * 1)) fun (x30_ : (Option Addr × Nat × Nat)) =>
 M.append 5 1 1 s27_.1.1 s27_.1.2.1 s27_.1.2.2 (.slice x30_.1 x30_.2.1 x30_.2.2) fun a31_ n32_ c33_ =>
 M.pure (.inl ((a31_, n32_, c33_), (IntKind.i64.wrap (s27_.2.1 + 1)), ()))))
 (M.pure (.inr (.inl (s27_.1, ()))))) ((none, 0, 0), 0, ())) <| M.sum (fun (j35_ : ((Option Addr × Nat × Nat)) × Unit) =>
 M.pure (.tuple ⟨[(.slice j35_.1.1 j35_.1.2.1 j35_.1.2.2), (.int .i64 0)]⟩)) (fun _ => M.stuck)
def f299c1 (X : Task → M Value) (L : LoopI) (b6_ : Nat) (b7_ : Nat) (x18_ : Int) (x21_ : Int) : M (Value) :=
 M.load (.cell .slice) 1 (Addr.mk b6_ 0 none) fun (x22_ : (Option Addr × Nat × Nat)) =>
 M.load (.cell .slice) 1 (Addr.mk b7_ 0 none) fun (x23_ : (Option Addr × Nat × Nat)) =>
 M.callS (.tuple [(.cell .slice), (.cell (.int .i64))]) (X (.call 331 [(.int .i64 x18_), (.int .i64 x21_), (.slice x22_.1 x22_.2.1 x22_.2.2), (.slice x23_.1 x23_.2.1 x23_.2.2)])) fun (r24_ : ((Option Addr × Nat × Nat)) × (Int) × Unit) =>
 M.ite (!(r24_.2.1 == 0))
 (M.pure (.tuple ⟨[(.slice none 0 0), (.int .i64 r24_.2.1)]⟩))
 (f299c0 X L r24_ ((r24_.1.2.1 : Nat) : Int))
def f299c2 (X : Task → M Value) (L : LoopI) (b0_ : Nat) (b6_ : Nat) (b7_ : Nat) (v11_ : Int) (a13_ : Addr) : M (Value) :=
 M.load (.cell (.int .i64)) 1 ((a13_.add 1).add 0) fun (x14_ : Int) =>
 M.ite (decide (v11_ < x14_))
 (M.pure (.tuple ⟨[(.slice none 0 0), (.int .i64 20)]⟩))
 (M.load (.cell .ptr) 1 (Addr.mk b0_ 0 none) fun (x16_ : Option Addr) =>
 M.deref x16_ fun a17_ =>
 M.load (.cell (.int .i64)) 1 ((a17_.add 1).add 0) fun (x18_ : Int) =>
 M.load (.cell .ptr) 1 (Addr.mk b0_ 0 none) fun (x19_ : Option Addr) =>
 M.deref x19_ fun a20_ =>
 M.load (.cell (.int .i64)) 1 ((a20_.add 1).add 1) fun (x21_ : Int) =>
 f299c1 X L b6_ b7_ x18_ x21_)
def f299c3 (X : Task → M Value) (L : LoopI) (x : (Option Addr) × (Int) × (Int) × Unit) (b0_ : Nat) (b1_ : Nat) (b6_ : Nat) (b7_ : Nat) (x8_ : Option Addr) : M (Value) :=
 M.callS (.tuple []) (X (.call 328 [(.pointer x8_), (.int .i64 x.2.1), (.func (.func 329) ⟨[]⟩ ⟨[(.pointer (some (Addr.mk b1_ 0 none))), (.pointer (some (Addr.mk b6_ 0 none))), (.pointer (some (Addr.mk b0_ 0 none))), (.pointer (some (Addr.mk b7_ 0 none)))]⟩)])) fun (r9_ : Unit) =>
 M.load (.cell .slice) 1 (Addr.mk b6_ 0 none) fun (x10_ : (Option Addr × Nat × Nat)) =>
 M.load (.cell .ptr) 1 (Addr.mk b0_ 0 none) fun (x12_ : Option Addr) =>
 M.deref x12_ fun a13_ =>
 f299c2 X L b0_ b6_ b7_ ((x10_.2.1 : Nat) : Int) a13_
def f299c4 (X : Task → M Value) (L : LoopI) (x : (Option Addr) × (Int) × (Int) × Unit) (b0_ : Nat) (b1_ : Nat) (x2_ : Option Addr) : M (Value) :=
 M.load (.cell (.int .u64)) 1 (Addr.mk b1_ 0 none) fun (x3_ : Int) =>
 M.callS (.one (.cell (.int .i64))) (X (.call 262 [(.pointer x2_), (.int .i64 0), (.int .i64 x.2.1), (.int .u64 x3_), (.bool true)])) fun (r4_ : Int) =>
 M.ite (!(r4_ == 0))
 (M.pure (.tuple ⟨[(.slice none 0 0), (.int .i64 r4_)]⟩))
 (M.new (.cells (Row.ofList [(.slice none 0 0)]) 61 false (0, 0) false) fun b6_ =>
 M.new (.cells (Row.ofList [(.slice none 0 0)]) 231 false (0, 0) false) fun b7_ =>
 M.load (.cell .ptr) 1 (Addr.mk b0_ 0 none) fun (x8_ : Option Addr) =>
 f299c3 X L x b0_ b1_ b6_ b7_ x8_)
def f299 (X : Task → M Value) (L : LoopI) (x : (Option Addr) × (Int) × (Int) × Unit) : M Value :=
 M.new (.cells (Row.ofList [(.pointer x.1)]) 79 false (0, 0) false) fun b0_ =>
 M.new (.cells (Row.ofList [(.int .u64 x.2.2.1)]) 206 false (0, 0) false) fun b1_ =>
 M.load (.cell .ptr) 1 (Addr.mk b0_ 0 none) fun (x2_ : Option Addr) =>
 f299c4 X L x b0_ b1_ x2_

theorem e299 (X : Task → M Value) (L : LoopI) (x : (Option Addr) × (Int) × (Int) × Unit) : evBody CC { call := X, loop := L } 299 (shsInj [(.cell .ptr), (.cell (.int .i64)), (.cell (.int .u64))] x) = f299 X L x := by kernel_rfl

/-- hayrick/inode.numbers -/
def f300c0 (X : Task → M Value) (L : LoopI) (b10_ : Nat) (x11_ : Int × Int × Int × Int × Int × Int × Unit) (s12_ : (Int) × Unit) : M (((Int) × Unit) ⊕ ((Unit) ⊕ (Unit))) :=
 M.guard (decide (0 ≤ s12_.1) && decide (s12_.1 < ((6 : Nat) : Int)))
 (M.need ((([(.int .u32 x11_.1), (.int .u32 x11_.2.1), (.int .u32 x11_.2.2.1), (.int .u32 x11_.2.2.2.1), (.int .u32 x11_.2.2.2.2.1), (.int .u32 x11_.2.2.2.2.2.1)])[((Int.toNat s12_.1) * 1)]?).bind ((.cell (.int .u32)) : Sh).prj) fun (x15_ : Int) =>
 let v16_ : Int := IntKind.i64.wrap (4 + s12_.1)
 M.guard (decide (0 ≤ v16_) && decide (v16_ < ((11 : Nat) : Int)))
 (M.store ((Addr.mk b10_ 0 none).add ((Int.toNat v16_) * 2)) [(.int .u32 x15_), (.int .i64 4)]
 (M.pure (.inl ((IntKind.i64.wrap (s12_.1 + 1)), ())))))
def f300c1 (X : Task → M Value) (L : LoopI) (b1_ : Nat) : M (Value) :=
 M.load (.agg [(.int .u32), (.int .i64), (.int .u32), (.int .i64), (.int .u32), (.int .i64), (.int .u32), (.int .i64), (.int .u32), (.int .i64), (.int .u32), (.int .i64), (.int .u32), (.int .i64), (.int .u32), (.int .i64), (.int .u32), (.int .i64), (.int .u32), (.int .i64), (.int .u32), (.int .i64)]) 22 (Addr.mk b1_ 0 none) fun (x21_ : Int × Int × Int × Int × Int × Int × Int × Int × Int × Int × Int × Int × Int × Int × Int × Int × Int × Int × Int × Int × Int × Int × Unit) =>
 M.pure (.agg ⟨[(.int .u32 x21_.1), (.int .i64 x21_.2.1), (.int .u32 x21_.2.2.1), (.int .i64 x21_.2.2.2.1), (.int .u32 x21_.2.2.2.2.1), (.int .i64 x21_.2.2.2.2.2.1), (.int .u32 x21_.2.2.2.2.2.2.1), (.int .i64 x21_.2.2.2.2.2.2.2.1), (.int .u32 x21_.2.2.2.2.2.2.2.2.1), (.int .i64 x21_.2.2.2.2.2.2.2.2.2.1), (.int .u32 x21_.2.2.2.2.2.2.2.2.2.2.1), (.int .i64 x21_.2.2.2.2.2.2.2.2.2.2.2.1), (.int .u32 x21_.2.2.2.2.2.2.2.2.2.2.2.2.1), (.int .i64 x21_.2.2.2.2.2.2.2.2.2.2.2.2.2.1), (.int .u32 x21_.2.2.2.2.2.2.2.2.2.2.2.2.2.2.1), (.int .i64 x21_.2.2.2.2.2.2.2.2.2.2.2.2.2.2.2.1), (.int .u32 x21_.2.2.2.2.2.2.2.2.2.2.2.2.2.2.2.2.1), (.int .i64 x21_.2.2.2.2.2.2.2.2.2.2.2.2.2.2.2.2.2.1), (.int .u32 x21_.2.2.2.2.2.2.2.2.2.2.2.2.2.2.2.2.2.2.1), (.int .i64 x21_.2.2.2.2.2.2.2.2.2.2.2.2.2.2.2.2.2.2.2.1), (.int .u32 x21_.2.2.2.2.2.2.2.2.2.2.2.2.2.2.2.2.2.2.2.2.1), (.int .i64 x21_.2.2.2.2.2.2.2.2.2.2.2.2.2.2.2.2.2.2.2.2.2.1)]⟩)
def f300c2 (X : Task → M Value) (L : LoopI) (b1_ : Nat) (x20_ : Int × Int × Int × Int × Int × Int × Int × Int × Int × Int × Int × Int × Int × Int × Int × Int × Int × Int × Int × Int × Int × Int × Unit) : M (Value) :=
 M.store (Addr.mk b1_ 0 none) [(.int .u32 x20_.1), (.int .i64 x20_.2.1), (.int .u32 x20_.2.2.1), (.int .i64 x20_.2.2.2.1), (.int .u32 x20_.2.2.2.2.1), (.int .i64 x20_.2.2.2.2.2.1), (.int .u32 x20_.2.2.2.2.2.2.1), (.int .i64 x20_.2.2.2.2.2.2.2.1), (.int .u32 x20_.2.2.2.2.2.2.2.2.1), (.int .i64 x20_.2.2.2.2.2.2.2.2.2.1), (.int .u32 x20_.2.2.2.2.2.2.2.2.2.2.1), (.int .i64 x20_.2.2.2.2.2.2.2.2.2.2.2.1), (.int .u32 x20_.2.2.2.2.2.2.2.2.2.2.2.2.1), (.int .i64 x20_.2.2.2.2.2.2.2.2.2.2.2.2.2.1), (.int .u32 x20_.2.2.2.2.2.2.2.2.2.2.2.2.2.2.1), (.int .i64 x20_.2.2.2.2.2.2.2.2.2.2.2.2.2.2.2.1), (.int .u32 x20_.2.2.2.2.2.2.2.2.2.2.2.2.2.2.2.2.1), (.int .i64 x20_.2.2.2.2.2.2.2.2.2.2.2.2.2.2.2.2.2.1), (.int .u32 x20_.2.2.2.2.2.2.2.2.2.2.2.2.2.2.2.2.2.2.1), (.int .i64 x20_.2.2.2.2.2.2.2.2.2.2.2.2.2.2.2.2.2.2.2.1), (.int .u32 x20_.2.2.2.2.2.2.2.2.2.2.2.2.2.2.2.2.2.2.2.2.1), (.int .i64 x20_.2.2.2.2.2.2.2.2.2.2.2.2.2.2.2.2.2.2.2.2.2.1)]
 (f300c1 X L b1_)
def f300c3 (X : Task → M Value) (L : LoopI) (b1_ : Nat) (b10_ : Nat) (x19_ : Int) : M (Value) :=
 M.store ((Addr.mk b10_ 0 none).add ((Int.toNat 10) * 2)) [(.int .u32 x19_), (.int .i64 4)]
 (M.load (.agg [(.int .u32), (.int .i64), (.int .u32), (.int .i64), (.int .u32), (.int .i64), (.int .u32), (.int .i64), (.int .u32), (.int .i64), (.int .u32), (.int .i64), (.int .u32), (.int .i64), (.int .u32), (.int .i64), (.int .u32), (.int .i64), (.int .u32), (.int .i64), (.int .u32), (.int .i64)]) 22 (Addr.mk b10_ 0 none) fun (x20_ : Int × Int × Int × Int × Int × Int × Int × Int × Int × Int × Int × Int × Int × Int × Int × Int × Int × Int × Int × Int × Int × Int × Unit) =>
 f300c2 X L b1_ x20_)
def f300c4 (X : Task → M Value) (L : LoopI) (b0_ : Nat) (b1_ : Nat) (b10_ : Nat) : M (Value) :=
 M.load (.agg [(.int .u32), (.int .u32), (.int .u32), (.int .u32), (.int .u32), (.int .u32)]) 6 ((Addr.mk b0_ 0 none).add 4) fun (x11_ : Int × Int × Int × Int × Int × Int × Unit) =>
 M.bind (L (σ := (Int) × Unit) (ρ := (Unit) ⊕ (Unit)) (fun s12_ =>
 M.ite (decide (s12_.1 < 6))
 (f300c0 X L b10_ x11_ s12_)
 (M.pure (.inr (.inl (()))))) (0, ())) <| M.sum (fun (j18_ : Unit) =>
 M.load (.cell (.int .u32)) 1 ((Addr.mk b0_ 0 none).add 10) fun (x19_ : Int) =>
 M.guard (decide (0 ≤ 10) && decide (10 < ((11 : Nat) : Int)))
 (f300c3 X L b1_ b10_ x19_)) (fun _ => M.stuck)
def f300c5 (X : Task → M Value) (L : LoopI) (b0_ : Nat) (b1_ : Nat) (v3_ : Int) (v5_ : Int) (v7_ : Int) : M (Value) :=
 M.load (.cell (.int .i64)) 1 ((Addr.mk b0_ 0 none).add 2) fun (x8_ : Int) =>
 M.new (.cells (Row.ofList (zc 415)) 415 false (0, 0) false) fun b10_ =>
 M.store (Addr.mk b10_ 0 none) [(.int .u32 v3_), (.int .i64 2), (.int .u32 v5_), (.int .i64 1), (.int .u32 v7_), (.int .i64 1), (.int .u32 (IntKind.u32.wrap x8_)), (.int .i64 2), (.int .u32 0), (.int .i64 0), (.int .u32 0), (.int .i64 0), (.int .u32 0), (.int .i64 0), (.int .u32 0), (.int .i64 0), (.int .u32 0), (.int .i64 0), (.int .u32 0), (.int .i64 0), (.int .u32 0), (.int .i64 0)]
 (f300c4 X L b0_ b1_ b10_)
def f300c6 (X : Task → M Value) (L : LoopI) (x : (Int × Int × Int × Int × Int × Int × Int × Int × Int × Int × Int × Unit) × Unit) : M (Value) :=
 M.new (.cells (Row.ofList [(.int .i64 x.1.1), (.int .i64 x.1.2.1), (.int .i64 x.1.2.2.1), (.int .i64 x.1.2.2.2.1), (.int .u32 x.1.2.2.2.2.1), (.int .u32 x.1.2.2.2.2.2.1), (.int .u32 x.1.2.2.2.2.2.2.1), (.int .u32 x.1.2.2.2.2.2.2.2.1), (.int .u32 x.1.2.2.2.2.2.2.2.2.1), (.int .u32 x.1.2.2.2.2.2.2.2.2.2.1), (.int .u32 x.1.2.2.2.2.2.2.2.2.2.2.1)]) 117 false (0, 0) false) fun b0_ =>
 M.new (.cells (Row.ofList (zc 415)) 415 false (0, 0) false) fun b1_ =>
 M.load (.cell (.int .i64)) 1 ((Addr.mk b0_ 0 none).add 0) fun (x2_ : Int) =>
 M.load (.cell (.int .i64)) 1 ((Addr.mk b0_ 0 none).add 1) fun (x4_ : Int) =>
 M.load (.cell (.int .i64)) 1 ((Addr.mk b0_ 0 none).add 3) fun (x6_ : Int) =>
 f300c5 X L b0_ b1_ (IntKind.u32.wrap x2_) (IntKind.u32.wrap x4_) (IntKind.u32.wrap x6_)
def f300 (X : Task → M Value) (L : LoopI) (x : (Int × Int × Int × Int × Int × Int × Int × Int × Int × Int × Int × Unit) × Unit) : M Value :=
 f300c6 X L x

theorem e300 (X : Task → M Value) (L : LoopI) (x : (Int × Int × Int × Int × Int × Int × Int × Int × Int × Int × Int × Unit) × Unit) : evBody CC { call := X, loop := L } 300 (shsInj [(.agg [(.int .i64), (.int .i64), (.int .i64), (.int .i64), (.int .u32), (.int .u32), (.int .u32), (.int .u32), (.int .u32), (.int .u32), (.int .u32)])] x) = f300 X L x := by kernel_rfl

/-- cmp.isNaN[rune] -/
def f301 (X : Task → M Value) (L : LoopI) (x : (Int) × Unit) : M Value :=
 M.pure (.bool (!(x.1 == x.1)))

theorem e301 (X : Task → M Value) (L : LoopI) (x : (Int) × Unit) : evBody CC { call := X, loop := L } 301 (shsInj [(.cell (.int .i32))] x) = f301 X L x := by kernel_rfl

/-- slices.pdqsortOrdered[int] -/
def f304c0 (X : Task → M Value) (L : LoopI) (x : ((Option Addr × Nat × Nat)) × (Int) × (Int) × (Int) × Unit) (s0_ : (Int) × (Int) × (Int) × (Bool) × (Bool) × Unit) (go2_ : ((Int) × (Int) × (Int) × (Bool) × (Bool) × Unit) → M (((Int) × (Int) × (Int) × (Bool) × (Bool) × Unit) ⊕ ((Unit) ⊕ (Unit)))) (j8_ : (Int) × Unit) (r18_ : (Int) × (Bool) × Unit) (v19_ : Int) (v20_ : Int) (v21_ : Int) : M (((Int) × (Int) × (Int) × (Bool) × (Bool) × Unit) ⊕ ((Unit) ⊕ (Unit))) :=
 M.ite (decide (v19_ < v20_))
 (M.callS (.tuple []) (X (.call 304 [(.slice x.1.1 x.1.2.1 x.1.2.2), (.int .i64 s0_.1), (.int .i64 r18_.1), (.int .i64 j8_.1)])) fun (r24_ : Unit) =>
 go2_ ((IntKind.i64.wrap (r18_.1 + 1)), s0_.2.1, j8_.1, (decide (v19_ ≥ v21_)), r18_.2.1, ()))
 (M.callS (.tuple []) (X (.call 304 [(.slice x.1.1 x.1.2.1 x.1.2.2), (.int .i64 (IntKind.i64.wrap (r18_.1 + 1))), (.int .i64 s0_.2.1), (.int .i64 j8_.1)])) fun (r28_ : Unit) =>
 go2_ (s0_.1, r18_.1, j8_.1, (decide (v20_ ≥ v21_)), r18_.2.1, ()))
def f304c1 (X : Task → M Value) (L : LoopI) (x : ((Option Addr × Nat × Nat)) × (Int) × (Int) × (Int) × Unit) (s0_ : (Int) × (Int) × (Int) × (Bool) × (Bool) × Unit) (go2_ : ((Int) × (Int) × (Int) × (Bool) × (Bool) × Unit) → M (((Int) × (Int) × (Int) × (Bool) × (Bool) × Unit) ⊕ ((Unit) ⊕ (Unit)))) (v3_ : Int) (j8_ : (Int) × Unit) (j11_ : (Int) × (Int) × Unit) (j15_ : (Bool) × Unit) : M (((Int) × (Int) × (Int) × (Bool) × (Bool) × Unit) ⊕ ((Unit) ⊕ (Unit))) :=
 M.ite j15_.1
 (M.callS (.one (.cell (.int .i64))) (X (.call 339 [(.slice x.1.1 x.1.2.1 x.1.2.2), (.int .i64 s0_.1), (.int .i64 s0_.2.1), (.int .i64 j11_.1)])) fun (r17_ : Int) =>
 go2_ (r17_, s0_.2.1, j8_.1, s0_.2.2.2.1, s0_.2.2.2.2.1, ()))
 (M.callS (.tuple [(.cell (.int .i64)), (.cell .bool)]) (X (.call 340 [(.slice x.1.1 x.1.2.1 x.1.2.2), (.int .i64 s0_.1), (.int .i64 s0_.2.1), (.int .i64 j11_.1)])) fun (r18_ : (Int) × (Bool) × Unit) =>
 M.guard (!(decide (8 = 0)))
 (f304c0 X L x s0_ go2_ j8_ r18_ (IntKind.i64.wrap (r18_.1 - s0_.1)) (IntKind.i64.wrap (s0_.2.1 - r18_.1)) (IntKind.i64.wrap ((v3_ : Int).tdiv 8))))
def f304c2 (X : Task → M Value) (L : LoopI) (x : ((Option Addr × Nat × Nat)) × (Int) × (Int) × (Int) × Unit) (s0_ : (Int) × (Int) × (Int) × (Bool) × (Bool) × Unit) (j11_ : (Int) × (Int) × Unit) (go16_ : ((Bool) × Unit) → M (((Int) × (Int) × (Int) × (Bool) × (Bool) × Unit) ⊕ ((Unit) ⊕ (Unit)))) : M (((Int) × (Int) × (Int) × (Bool) × (Bool) × Unit) ⊕ ((Unit) ⊕ (Unit))) :=
 let v30_ : Int := IntKind.i64.wrap (s0_.1 - 1)
 M.guard (decide (0 ≤ v30_) && decide (v30_ < ((x.1.2.1 : Nat) : Int)))
 (M.deref x.1.1 fun a31_ =>
 M.load (.cell (.int .i64)) 1 (a31_.add ((Int.toNat v30_) * 1)) fun (x32_ : Int) =>
 M.guard (decide (0 ≤ j11_.1) && decide (j11_.1 < ((x.1.2.1 : Nat) : Int)))
 (M.deref x.1.1 fun a33_ =>
 M.load (.cell (.int .i64)) 1 (a33_.add ((Int.toNat j11_.1) * 1)) fun (x34_ : Int) =>
 M.callS (.one (.cell .bool)) (X (.call 338 [(.int .i64 x32_), (.int .i64 x34_)])) fun (r35_ : Bool) =>
 go16_ ((!r35_), ())))
def f304c3 (X : Task → M Value) (L : LoopI) (x : ((Option Addr × Nat × Nat)) × (Int) × (Int) × (Int) × Unit) (s0_ : (Int) × (Int) × (Int) × (Bool) × (Bool) × Unit) (go2_ : ((Int) × (Int) × (Int) × (Bool) × (Bool) × Unit) → M (((Int) × (Int) × (Int) × (Bool) × (Bool) × Unit) ⊕ ((Unit) ⊕ (Unit)))) (v3_ : Int) (j8_ : (Int) × Unit) (j11_ : (Int) × (Int) × Unit) : M (((Int) × (Int) × (Int) × (Bool) × (Bool) × Unit) ⊕ ((Unit) ⊕ (Unit))) :=
 M.join (fun (j13_ : Unit) =>
 M.join (fun (j15_ : (Bool) × Unit) =>
 f304c1 X L x s0_ go2_ v3_ j8_ j11_ j15_) fun go16_ =>
 M.ite (decide (s0_.1 > 0))
 (f304c2 X L x s0_ j11_ go16_)
 (go16_ (false, ()))) fun go14_ =>
 M.join (fun (j37_ : (Bool) × Unit) =>
 M.ite j37_.1
 (M.callS (.one (.cell .bool)) (X (.call 337 [(.slice x.1.1 x.1.2.1 x.1.2.2), (.int .i64 s0_.1), (.int .i64 s0_.2.1)])) fun (r39_ : Bool) =>
 M.ite r39_
 (M.pure (.inr (.inl (()))))
 (go14_ (())))
 (go14_ (()))) fun go38_ =>
 M.ite s0_.2.2.2.1
 (M.ite s0_.2.2.2.2.1
 (go38_ ((j11_.2.1 == 1), ()))
 (go38_ (false, ())))
 (go38_ (false, ()))
def f304c4 (X : Task → M Value) (L : LoopI) (x : ((Option Addr × Nat × Nat)) × (Int) × (Int) × (Int) × Unit) (s0_ : (Int) × (Int) × (Int) × (Bool) × (Bool) × Unit) (go2_ : ((Int) × (Int) × (Int) × (Bool) × (Bool) × Unit) → M (((Int) × (Int) × (Int) × (Bool) × (Bool) × Unit) ⊕ ((Unit) ⊕ (Unit)))) (v3_ : Int) (j8_ : (Int) × Unit) : M (((Int) × (Int) × (Int) × (Bool) × (Bool) × Unit) ⊕ ((Unit) ⊕ (Unit))) :=
 M.callS (.tuple [(.cell (.int .i64)), (.cell (.int .i64))]) (X (.call 335 [(.slice x.1.1 x.1.2.1 x.1.2.2), (.int .i64 s0_.1), (.int .i64 s0_.2.1)])) fun (r10_ : (Int) × (Int) × Unit) =>
 M.join (fun (j11_ : (Int) × (Int) × Unit) =>
 f304c3 X L x s0_ go2_ v3_ j8_ j11_) fun go12_ =>
 M.ite (r10_.2.1 == 2)
 (M.callS (.tuple []) (X (.call 336 [(.slice x.1.1 x.1.2.1 x.1.2.2), (.int .i64 s0_.1), (.int .i64 s0_.2.1)])) fun (r42_ : Unit) =>
 go12_ ((IntKind.i64.wrap ((IntKind.i64.wrap (s0_.2.1 - 1)) - (IntKind.i64.wrap (r10_.1 - s0_.1)))), 1, ()))
 (go12_ (r10_.1, r10_.2.1, ()))
def f304c5 (X : Task → M Value) (L : LoopI) (x : ((Option Addr × Nat × Nat)) × (Int) × (Int) × (Int) × Unit) (s0_ : (Int) × (Int) × (Int) × (Bool) × (Bool) × Unit) (go2_ : ((Int) × (Int) × (Int) × (Bool) × (Bool) × Unit) → M (((Int) × (Int) × (Int) × (Bool) × (Bool) × Unit) ⊕ ((Unit) ⊕ (Unit)))) (v3_ : Int) (v4_ : Bool) : M (((Int) × (Int) × (Int) × (Bool) × (Bool) × Unit) ⊕ ((Unit) ⊕ (Unit))) :=
 M.ite v4_
 (M.callS (.tuple []) (X (.call 332 [(.slice x.1.1 x.1.2.1 x.1.2.2), (.int .i64 s0_.1), (.int .i64 s0_.2.1)])) fun (r5_ : Unit) =>
 M.pure (.inr (.inl (()))))
 (M.ite (s0_.2.2.1 == 0)
 (M.callS (.tuple []) (X (.call 333 [(.slice x.1.1 x.1.2.1 x.1.2.2), (.int .i64 s0_.1), (.int .i64 s0_.2.1)])) fun (r7_ : Unit) =>
 M.pure (.inr (.inl (()))))
 (M.join (fun (j8_ : (Int) × Unit) =>
 f304c4 X L x s0_ go2_ v3_ j8_) fun go9_ =>
 M.ite (!s0_.2.2.2.1)
 (M.callS (.tuple []) (X (.call 334 [(.slice x.1.1 x.1.2.1 x.1.2.2), (.int .i64 s0_.1), (.int .i64 s0_.2.1)])) fun (r47_ : Unit) =>
 go9_ ((IntKind.i64.wrap (s0_.2.2.1 - 1)), ()))
 (go9_ (s0_.2.2.1, ()))))
def f304 (X : Task → M Value) (L : LoopI) (x : ((Option Addr × Nat × Nat)) × (Int) × (Int) × (Int) × Unit) : M Value :=
 M.bind (L (σ := (Int) × (Int) × (Int) × (Bool) × (Bool) × Unit) (ρ := (Unit) ⊕ (Unit)) (fun s0_ =>
 M.join (fun (j1_ : (Int) × (Int) × (Int) × (Bool) × (Bool) × Unit) =>
 M.pure (.inl (j1_.1, j1_.2.1, j1_.2.2.1, j1_.2.2.2.1, j1_.2.2.2.2.1, ()))) fun go2_ =>
 let v3_ : Int := IntKind.i64.wrap (s0_.2.1 - s0_.1)
 f304c5 X L x s0_ go2_ v3_ (decide (v3_ ≤ 12))) (x.2.1, x.2.2.1, x.2.2.2.1, true, true, ())) <| M.sum (fun (j49_ : Unit) =>
 M.pure (.tuple ⟨[]⟩)) (fun _ => M.stuck)

theorem e304 (X : Task → M Value) (L : LoopI) (x : ((Option Addr × Nat × Nat)) × (Int) × (Int) × (Int) × Unit) : evBody CC { call := X, loop := L } 304 (shsInj [(.cell .slice), (.cell (.int .i64)), (.cell (.int .i64)), (.cell (.int .i64))] x) = f304 X L x := by kernel_rfl

/-- math/bits.Len -/
def f305 (X : Task → M Value) (L : LoopI) (x : (Int) × Unit) : M Value :=
 M.callS (.one (.cell (.int .i64))) (X (.call 342 [(.int .u64 x.1)])) fun (r0_ : Int) =>
 M.pure (.int .i64 r0_)

theorem e305 (X : Task → M Value) (L : LoopI) (x : (Int) × Unit) : evBody CC { call := X, loop := L } 305 (shsInj [(.cell (.int .u64))] x) = f305 X L x := by kernel_rfl

/-- hayrick/hayrickref10.Rune -/
def f306c0 (X : Task → M Value) (L : LoopI) (x : (ByteArray) × Unit) (s8_ : (Int) × (Int) × Unit) : M (((Int) × (Int) × Unit) ⊕ (((Int) × Unit) ⊕ (((Int) × (Int) × (Bool) × Unit) ⊕ (Unit)))) :=
 M.join (fun (j10_ : (Bool) × Unit) =>
 M.ite j10_.1
 (M.pure (.inr (.inr (.inl (65533, 1, true, ())))))
 (M.guard (decide (0 ≤ s8_.2.1) && decide (s8_.2.1 < (x.1.size : Int)))
 (M.pure (.inl ((IntKind.i64.wrap ((IntKind.i64.wrap ((IntKind.i64.wrap (64 * s8_.1)) + (IntKind.i64.wrap (byteAt x.1 s8_.2.1)))) - 128)), (IntKind.i64.wrap (s8_.2.1 + 1)), ()))))) fun go11_ =>
 M.guard (decide (0 ≤ s8_.2.1) && decide (s8_.2.1 < (x.1.size : Int)))
 (M.ite (decide ((byteAt x.1 s8_.2.1) < 128))
 (go11_ (true, ()))
 (M.guard (decide (0 ≤ s8_.2.1) && decide (s8_.2.1 < (x.1.size : Int)))
 (go11_ ((decide ((byteAt x.1 s8_.2.1) > 191)), ()))))
def f306c1 (X : Task → M Value) (L : LoopI) (x : (ByteArray) × Unit) (j4_ : (Int) × (Int) × (Int) × Unit) : M (Value) :=
 M.bind (L (σ := (Int) × (Int) × Unit) (ρ := ((Int) × Unit) ⊕ (((Int) × (Int) × (Bool) × Unit) ⊕ (Unit))) (fun s8_ =>
 M.ite (decide (s8_.2.1 < j4_.1))
 (f306c0 X L x s8_)
 (M.pure (.inr (.inl (s8_.1, ()))))) (j4_.2.2.1, 1, ())) <| M.sum (fun (j22_ : (Int) × Unit) =>
 M.join (fun (j23_ : (Bool) × Unit) =>
 M.ite j23_.1
 (M.pure (.tuple ⟨[(.int .i32 65533), (.int .i64 1), (.bool true)]⟩))
 (M.pure (.tuple ⟨[(.int .i32 (IntKind.i32.wrap j22_.1)), (.int .i64 j4_.1), (.bool false)]⟩))) fun go24_ =>
 M.ite (decide (j22_.1 < j4_.2.1))
 (go24_ (true, ()))
 (M.ite (decide (j22_.1 > 1114111))
 (go24_ (true, ()))
 (M.ite (decide (j22_.1 ≥ 55296))
 (go24_ ((decide (j22_.1 < 57344)), ()))
 (go24_ (false, ()))))) (M.sum (fun (j30_ : (Int) × (Int) × (Bool) × Unit) =>
 M.pure (.tuple ⟨[(.int .i32 j30_.1), (.int .i64 j30_.2.1), (.bool j30_.2.2.1)]⟩)) (fun _ => M.stuck))
def f306c2 (X : Task → M Value) (L : LoopI) (v1_ : Int) (go5_ : ((Int) × (Int) × (Int) × Unit) → M (Value)) : M (Value) :=
 M.join (fun (j34_ : (Bool) × Unit) =>
 M.ite j34_.1
 (go5_ (2, 128, (IntKind.i64.wrap (v1_ - 192)), ()))
 (M.join (fun (j37_ : (Bool) × Unit) =>
 M.ite j37_.1
 (go5_ (3, 2048, (IntKind.i64.wrap (v1_ - 224)), ()))
 (M.join (fun (j40_ : (Bool) × Unit) =>
 M.ite j40_.1
 (go5_ (4, 65536, (IntKind.i64.wrap (v1_ - 240)), ()))
 (go5_ (0, 0, 0, ()))) fun go41_ =>
 M.ite (decide (v1_ ≥ 240))
 (go41_ ((decide (v1_ < 248)), ()))
 (go41_ (false, ())))) fun go38_ =>
 M.ite (decide (v1_ ≥ 224))
 (go38_ ((decide (v1_ < 240)), ()))
 (go38_ (false, ())))) fun go35_ =>
 M.ite (decide (v1_ ≥ 192))
 (go35_ ((decide (v1_ < 224)), ()))
 (go35_ (false, ()))
def f306c3 (X : Task → M Value) (L : LoopI) (x : (ByteArray) × Unit) : M (Value) :=
 M.guard (decide (0 ≤ 0) && decide (0 < (x.1.size : Int)))
 (let v1_ : Int := IntKind.i64.wrap (byteAt x.1 0)
 M.ite (decide (v1_ < 128))
 (M.pure (.tuple ⟨[(.int .i32 (IntKind.i32.wrap v1_)), (.int .i64 1), (.bool false)]⟩))
 (M.join (fun (j4_ : (Int) × (Int) × (Int) × Unit) =>
 M.join (fun (j6_ : (Bool) × Unit) =>
 M.ite j6_.1
 (M.pure (.tuple ⟨[(.int .i32 65533), (.int .i64 1), (.bool true)]⟩))
 (f306c1 X L x j4_)) fun go7_ =>
 M.ite (j4_.1 == 0)
 (go7_ (true, ()))
 (go7_ ((decide (((x.1.size : Nat) : Int) < j4_.1)), ()))) fun go5_ =>
 f306c2 X L v1_ go5_))
def f306 (X : Task → M Value) (L : LoopI) (x : (ByteArray) × Unit) : M Value :=
 f306c3 X L x

theorem e306 (X : Task → M Value) (L : LoopI) (x : (ByteArray) × Unit) : evBody CC { call := X, loop := L } 306 (shsInj [(.cell .string)] x) = f306 X L x := by kernel_rfl

/-- (*hayrick/array.Array).Off -/
def f311 (X : Task → M Value) (L : LoopI) (x : (Option Addr) × Unit) : M Value :=
 M.join (fun (j0_ : (Bool) × Unit) =>
 M.pure (.bool j0_.1)) fun go1_ =>
 M.eqPtr x.1 none fun (q2_ : Bool) =>
 M.ite q2_
 (go1_ (true, ()))
 (M.deref x.1 fun a3_ =>
 M.load (.cell .bool) 1 (a3_.add 4) fun (x4_ : Bool) =>
 go1_ (x4_, ()))

theorem e311 (X : Task → M Value) (L : LoopI) (x : (Option Addr) × Unit) : evBody CC { call := X, loop := L } 311 (shsInj [(.cell .ptr)] x) = f311 X L x := by kernel_rfl

/-- hayrick/code.even -/
def f312c0 (X : Task → M Value) (L : LoopI) (x : ((Option Addr × Nat × Nat)) × Unit) (s1_ : (Int) × Unit) : M (((Int) × Unit) ⊕ ((Unit) ⊕ (((Bool) × Unit) ⊕ (Unit)))) :=
 M.guard (decide (0 ≤ s1_.1) && decide (s1_.1 < ((x.1.2.1 : Nat) : Int)))
 (M.deref x.1.1 fun a3_ =>
 M.load (.cell .slice) 1 (a3_.add ((Int.toNat s1_.1) * 1)) fun (x4_ : (Option Addr × Nat × Nat)) =>
 M.guard (decide (0 ≤ 0) && decide (0 < ((x.1.2.1 : Nat) : Int)))
 (M.deref x.1.1 fun a6_ =>
 M.load (.cell .slice) 1 (a6_.add ((Int.toNat 0) * 1)) fun (x7_ : (Option Addr × Nat × Nat)) =>
 M.ite (!(((x4_.2.1 : Nat) : Int) == ((x7_.2.1 : Nat) : Int)))
 (M.pure (.inr (.inr (.inl (false, ())))))
 (M.pure (.inl ((IntKind.i64.wrap (s1_.1 + 1)), ())))))
def f312 (X : Task → M Value) (L : LoopI) (x : ((Option Addr × Nat × Nat)) × Unit) : M Value :=
 M.bind (L (σ := (Int) × Unit) (ρ := (Unit) ⊕ (((Bool) × Unit) ⊕ (Unit))) (fun s1_ =>
 M.ite (decide (s1_.1 < ((x.1.2.1 : Nat) : Int)))
 (f312c0 X L x s1_)
 (M.pure (.inr (.inl (()))))) (0, ())) <| M.sum (fun (j11_ : Unit) =>
 M.pure (.bool true)) (M.sum (fun (j12_ : (Bool) × Unit) =>
 M.pure (.bool j12_.1)) (fun _ => M.stuck))

theorem e312 (X : Task → M Value) (L : LoopI) (x : ((Option Addr × Nat × Nat)) × Unit) : evBody CC { call := X, loop := L } 312 (shsInj [(.cell .slice)] x) = f312 X L x := by kernel_rfl

/-- hayrick/code.mix -/
def f313c0 (X : Task → M Value) (L : LoopI) (v2_ : Int) (b3_ : Nat) (s16_ : (Int) × Unit) (x19_ : Int) (x20_ : Int) (x22_ : Int) : M (((Int) × Unit) ⊕ ((Unit) ⊕ (Unit))) :=
 M.callS (.one (.cell (.int .u8))) (X (.call 349 [(.int .u8 x19_), (.int .u8 x22_)])) fun (r23_ : Int) =>
 M.load (.cell (.int .u8)) 1 ((Addr.mk b3_ 0 none).add ((Int.toNat s16_.1) * 1)) fun (x24_ : Int) => cond (veqv (.int .u8 x24_) (.int .u8 x20_)) (M.callS (.one (.cell (.int .u8))) (X (.call 348 [(.int .u8 x20_), (.int .u8 r23_)])) fun (r25_ : Int) =>
 M.guard (decide (0 ≤ s16_.1) && decide (s16_.1 < (((Int.toNat v2_) : Nat) : Int)))
 (M.store ((Addr.mk b3_ 0 none).add ((Int.toNat s16_.1) * 1)) [(.int .u8 r25_)]
 (M.pure (.inl ((IntKind.i64.wrap (s16_.1 + 1)), ()))))) M.stuck
def f313c1 (X : Task → M Value) (L : LoopI) (x : ((Option Addr × Nat × Nat)) × ((Option Addr × Nat × Nat)) × Unit) (v2_ : Int) (b3_ : Nat) (s5_ : (Int) × Unit) (x11_ : (Option Addr × Nat × Nat)) (s16_ : (Int) × Unit) : M (((Int) × Unit) ⊕ ((Unit) ⊕ (Unit))) :=
 M.guard (decide (0 ≤ s16_.1) && decide (s16_.1 < ((x11_.2.1 : Nat) : Int)))
 (M.deref x11_.1 fun a18_ =>
 M.load (.cell (.int .u8)) 1 (a18_.add ((Int.toNat s16_.1) * 1)) fun (x19_ : Int) =>
 M.guard (decide (0 ≤ s16_.1) && decide (s16_.1 < (((Int.toNat v2_) : Nat) : Int)))
 (M.load (.cell (.int .u8)) 1 ((Addr.mk b3_ 0 none).add ((Int.toNat s16_.1) * 1)) fun (x20_ : Int) =>
 M.guard (decide (0 ≤ s5_.1) && decide (s5_.1 < ((x.1.2.1 : Nat) : Int)))
 (M.deref x.1.1 fun a21_ =>
 M.load (.cell (.int .u8)) 1 (a21_.add ((Int.toNat s5_.1) * 1)) fun (x22_ : Int) =>
 f313c0 X L v2_ b3_ s16_ x19_ x20_ x22_)))
def f313c2 (X : Task → M Value) (L : LoopI) (x : ((Option Addr × Nat × Nat)) × ((Option Addr × Nat × Nat)) × Unit) (v2_ : Int) (b3_ : Nat) (s5_ : (Int) × Unit) (go8_ : (Unit) → M (((Int) × Unit) ⊕ ((Unit) ⊕ (Unit)))) (a10_ : Addr) : M (((Int) × Unit) ⊕ ((Unit) ⊕ (Unit))) :=
 M.load (.cell .slice) 1 (a10_.add ((Int.toNat s5_.1) * 1)) fun (x11_ : (Option Addr × Nat × Nat)) =>
 M.guard (decide (0 ≤ s5_.1) && decide (s5_.1 < ((x.1.2.1 : Nat) : Int)))
 (M.deref x.1.1 fun a12_ =>
 M.load (.cell (.int .u8)) 1 (a12_.add ((Int.toNat s5_.1) * 1)) fun (x13_ : Int) =>
 M.ite (x13_ == 0)
 (go8_ (()))
 (M.bind (L (σ := (Int) × Unit) (ρ := (Unit) ⊕ (Unit)) (fun s16_ =>
 M.ite (decide (s16_.1 < ((x11_.2.1 : Nat) : Int)))
 (f313c1 X L x v2_ b3_ s5_ x11_ s16_)
 (M.pure (.inr (.inl (()))))) (0, ())) <| M.sum (fun (j27_ : Unit) =>
 go8_ (())) (fun _ => M.stuck)))
def f313c3 (X : Task → M Value) (L : LoopI) (x : ((Option Addr × Nat × Nat)) × ((Option Addr × Nat × Nat)) × Unit) (v2_ : Int) (b3_ : Nat) : M (Value) :=
 M.bind (L (σ := (Int) × Unit) (ρ := (Unit) ⊕ (Unit)) (fun s5_ =>
 M.ite (decide (s5_.1 < ((x.2.1.2.1 : Nat) : Int)))
 (M.join (fun (j7_ : Unit) =>
 M.pure (.inl ((IntKind.i64.wrap (s5_.1 + 1)), ()))) fun go8_ =>
 M.guard (decide (0 ≤ s5_.1) && decide (s5_.1 < ((x.2.1.2.1 : Nat) : Int)))
 (M.deref x.2.1.1 fun a10_ =>
 f313c2 X L x v2_ b3_ s5_ go8_ a10_))
 (M.pure (.inr (.inl (()))))) (0, ())) <| M.sum (fun (j28_ : Unit) =>
 M.pure (.slice (some (Addr.mk b3_ 0 none)) (Int.toNat v2_) (Int.toNat v2_))) (fun _ => M.stuck)
def f313 (X : Task → M Value) (L : LoopI) (x : ((Option Addr × Nat × Nat)) × ((Option Addr × Nat × Nat)) × Unit) : M Value :=
 M.guard (decide (0 ≤ 0) && decide (0 < ((x.2.1.2.1 : Nat) : Int)))
 (M.deref x.2.1.1 fun a0_ =>
 M.load (.cell .slice) 1 (a0_.add ((Int.toNat 0) * 1)) fun (x1_ : (Option Addr × Nat × Nat)) =>
 let v2_ : Int := ((x1_.2.1 : Nat) : Int)
 M.guard (decide (0 ≤ v2_) && decide (v2_ ≤ v2_) && decide ((1 : Int) * v2_ ≤ 2 ^ 48))
 (M.new (.cells (Row.rep [(.int .u8 0)] (Int.toNat v2_)) 5 false (0, 0) false) fun b3_ =>
 f313c3 X L x v2_ b3_))

theorem e313 (X : Task → M Value) (L : LoopI) (x : ((Option Addr × Nat × Nat)) × ((Option Addr × Nat × Nat)) × Unit) : evBody CC { call := X, loop := L } 313 (shsInj [(.cell .slice), (.cell .slice)] x) = f313 X L x := by kernel_rfl

/-- hayrick/code.row -/
def f314c0 (X : Task → M Value) (L : LoopI) (x : (Int) × (Int) × Unit) (b0_ : Nat) (s2_ : (Int) × Unit) (go5_ : (Unit) → M (((Int) × Unit) ⊕ ((Unit) ⊕ (Unit)))) (j7_ : (Bool) × Unit) : M (((Int) × Unit) ⊕ ((Unit) ⊕ (Unit))) :=
 M.ite j7_.1
 (M.guard (decide (0 ≤ s2_.1) && decide (s2_.1 < (((Int.toNat x.1) : Nat) : Int)))
 (M.store ((Addr.mk b0_ 0 none).add ((Int.toNat s2_.1) * 1)) [(.int .u8 1)]
 (go5_ (()))))
 (M.ite (decide (x.2.1 ≥ x.1))
 (M.callS (.one (.cell (.int .u8))) (X (.call 348 [(.int .u8 (IntKind.u8.wrap x.2.1)), (.int .u8 (IntKind.u8.wrap s2_.1))])) fun (r12_ : Int) =>
 M.callS (.tuple [(.cell (.int .u8)), (.cell (.int .i64))]) (X (.call 350 [(.int .u8 r12_)])) fun (r13_ : (Int) × (Int) × Unit) =>
 M.guard (decide (0 ≤ s2_.1) && decide (s2_.1 < (((Int.toNat x.1) : Nat) : Int)))
 (M.store ((Addr.mk b0_ 0 none).add ((Int.toNat s2_.1) * 1)) [(.int .u8 r13_.1)]
 (go5_ (()))))
 (go5_ (())))
def f314c1 (X : Task → M Value) (L : LoopI) (x : (Int) × (Int) × Unit) (b0_ : Nat) (v1_ : Int) : M (Value) :=
 M.bind (L (σ := (Int) × Unit) (ρ := (Unit) ⊕ (Unit)) (fun s2_ =>
 M.ite (decide (s2_.1 < v1_))
 (M.join (fun (j4_ : Unit) =>
 M.pure (.inl ((IntKind.i64.wrap (s2_.1 + 1)), ()))) fun go5_ =>
 M.join (fun (j7_ : (Bool) × Unit) =>
 f314c0 X L x b0_ s2_ go5_ j7_) fun go8_ =>
 M.ite (decide (x.2.1 < x.1))
 (go8_ ((x.2.1 == s2_.1), ()))
 (go8_ (false, ())))
 (M.pure (.inr (.inl (()))))) (0, ())) <| M.sum (fun (j16_ : Unit) =>
 M.pure (.slice (some (Addr.mk b0_ 0 none)) (Int.toNat x.1) (Int.toNat x.1))) (fun _ => M.stuck)
def f314 (X : Task → M Value) (L : LoopI) (x : (Int) × (Int) × Unit) : M Value :=
 M.guard (decide (0 ≤ x.1) && decide (x.1 ≤ x.1) && decide ((1 : Int) * x.1 ≤ 2 ^ 48))
 (M.new (.cells (Row.rep [(.int .u8 0)] (Int.toNat x.1)) 5 false (0, 0) false) fun b0_ =>
 f314c1 X L x b0_ (((Int.toNat x.1) : Nat) : Int))

theorem e314 (X : Task → M Value) (L : LoopI) (x : (Int) × (Int) × Unit) : evBody CC { call := X, loop := L } 314 (shsInj [(.cell (.int .i64)), (.cell (.int .i64))] x) = f314 X L x := by kernel_rfl

/-- (*hayrick/array.Array).Write -/
def f316c0 (X : Task → M Value) (L : LoopI) (x : (Option Addr) × (Int) × (Int) × ((Option Addr × Nat × Nat)) × Unit) (b5_ : Nat) (a7_ : Addr) : M (Value) :=
 M.load (.cell .slice) 1 (a7_.add 2) fun (x8_ : (Option Addr × Nat × Nat)) =>
 M.load .raw 66 (Addr.mk b5_ 0 none) fun (x9_ : List Value) =>
 M.need (fillA (fun i => some (i * 66, 66)) (repeatA (zc 323) 1) [(0, (.agg ⟨x9_⟩))]) fun x10_ =>
 M.new (.cells (Row.ofList x10_) 323 false (0, 0) false) fun b11_ =>
 M.append 323 66 80 x8_.1 x8_.2.1 x8_.2.2 (.slice (some (Addr.mk b11_ 0 none)) 1 1) fun a12_ n13_ c14_ =>
 M.deref x.1 fun a15_ =>
 M.store (a15_.add 2) [(.slice a12_ n13_ c14_)]
 (M.pure (.int .i64 0))
def f316c1 (X : Task → M Value) (L : LoopI) (x : (Option Addr) × (Int) × (Int) × ((Option Addr × Nat × Nat)) × Unit) (b5_ : Nat) : M (Value) :=
 M.store (Addr.mk b5_ 0 none) [(.int .i64 x.2.1), (.int .i64 x.2.2.1), (.int .u8 0), (.int .u8 0), (.int .u8 0), (.int .u8 0), (.int .u8 0), (.int .u8 0), (.int .u8 0), (.int .u8 0), (.int .u8 0), (.int .u8 0), (.int .u8 0), (.int .u8 0), (.int .u8 0), (.int .u8 0), (.int .u8 0), (.int .u8 0), (.int .u8 0), (.int .u8 0), (.int .u8 0), (.int .u8 0), (.int .u8 0), (.int .u8 0), (.int .u8 0), (.int .u8 0), (.int .u8 0), (.int .u8 0), (.int .u8 0), (.int .u8 0), (.int .u8 0), (.int .u8 0), (.int .u8 0), (.int .u8 0), (.int .u8 0), (.int .u8 0), (.int .u8 0), (.int .u8 0), (.int .u8 0), (.int .u8 0), (.int .u8 0), (.int .u8 0), (.int .u8 0), (.int .u8 0), (.int .u8 0), (.int .u8 0), (.int .u8 0), (.int .u8 0), (.int .u8 0), (.int .u8 0), (.int .u8 0), (.int .u8 0), (.int .u8 0), (.int .u8 0), (.int .u8 0), (.int .u8 0), (.int .u8 0), (.int .u8 0), (.int .u8 0), (.int .u8 0), (.int .u8 0), (.int .u8 0), (.int .u8 0), (.int .u8 0), (.int .u8 0), (.int .u8 0)]
 (M.copy 1 (some (((Addr.mk b5_ 0 none).add 2).add (0 * 1))) (64 - 0) (.slice x.2.2.2.1.1 x.2.2.2.1.2.1 x.2.2.2.1.2.2) fun m6_ =>
 M.deref x.1 fun a7_ =>
 f316c0 X L x b5_ a7_)
def f316 (X : Task → M Value) (L : LoopI) (x : (Option Addr) × (Int) × (Int) × ((Option Addr × Nat × Nat)) × Unit) : M Value :=
 M.callS (.one (.cell (.int .i64))) (X (.call 352 [(.pointer x.1), (.int .i64 x.2.1), (.int .i64 x.2.2.1)])) fun (r0_ : Int) =>
 M.ite (!(r0_ == 0))
 (M.pure (.int .i64 r0_))
 (M.ite (!(((x.2.2.2.1.2.1 : Nat) : Int) == 64))
 (M.pure (.int .i64 1))
 (M.callS (.one (.cell .bool)) (X (.call 204 [(.pointer x.1)])) fun (r4_ : Bool) =>
 M.ite r4_
 (M.pure (.int .i64 8))
 (M.new (.cells (Row.ofList (zc 323)) 323 false (0, 0) false) fun b5_ =>
 f316c1 X L x b5_)))

theorem e316 (X : Task → M Value) (L : LoopI) (x : (Option Addr) × (Int) × (Int) × ((Option Addr × Nat × Nat)) × Unit) : evBody CC { call := X, loop := L } 316 (shsInj [(.cell .ptr), (.cell (.int .i64)), (.cell (.int .i64)), (.cell .slice)] x) = f316 X L x := by kernel_rfl

/-- hayrick/hayrickref04.Even -/
def f317c0 (X : Task → M Value) (L : LoopI) (x : ((Option Addr × Nat × Nat)) × Unit) (s0_ : (Int) × Unit) : M (((Int) × Unit) ⊕ ((Unit) ⊕ (((Bool) × Unit) ⊕ (Unit)))) :=
 M.guard (decide (0 ≤ s0_.1) && decide (s0_.1 < ((x.1.2.1 : Nat) : Int)))
 (M.deref x.1.1 fun a3_ =>
 M.load (.cell .slice) 1 (a3_.add ((Int.toNat s0_.1) * 1)) fun (x4_ : (Option Addr × Nat × Nat)) =>
 M.guard (decide (0 ≤ 0) && decide (0 < ((x.1.2.1 : Nat) : Int)))
 (M.deref x.1.1 fun a6_ =>
 M.load (.cell .slice) 1 (a6_.add ((Int.toNat 0) * 1)) fun (x7_ : (Option Addr × Nat × Nat)) =>
 M.ite (!(((x4_.2.1 : Nat) : Int) == ((x7_.2.1 : Nat) : Int)))
 (M.pure (.inr (.inr (.inl (false, ())))))
 (M.pure (.inl ((IntKind.i64.wrap (s0_.1 + 1)), ())))))
def f317 (X : Task → M Value) (L : LoopI) (x : ((Option Addr × Nat × Nat)) × Unit) : M Value :=
 M.bind (L (σ := (Int) × Unit) (ρ := (Unit) ⊕ (((Bool) × Unit) ⊕ (Unit))) (fun s0_ =>
 M.ite (decide (s0_.1 < ((x.1.2.1 : Nat) : Int)))
 (f317c0 X L x s0_)
 (M.pure (.inr (.inl (()))))) (1, ())) <| M.sum (fun (j11_ : Unit) =>
 M.pure (.bool true)) (M.sum (fun (j12_ : (Bool) × Unit) =>
 M.pure (.bool j12_.1)) (fun _ => M.stuck))

theorem e317 (X : Task → M Value) (L : LoopI) (x : ((Option Addr × Nat × Nat)) × Unit) : evBody CC { call := X, loop := L } 317 (shsInj [(.cell .slice)] x) = f317 X L x := by kernel_rfl

/-- hayrick/hayrickref04.Generator -/
def f318c0 (X : Task → M Value) (L : LoopI) (s3_ : ((Option Addr × Nat × Nat)) × (Int) × Unit) (s5_ : ((Option Addr × Nat × Nat)) × (Int) × Unit) (v6_ : Bool) : M ((((Option Addr × Nat × Nat)) × (Int) × Unit) ⊕ ((((Option Addr × Nat × Nat)) × Unit) ⊕ (Unit))) :=
 M.ite v6_
 (M.callS (.tuple [(.cell (.int .u8)), (.cell (.int .i64))]) (X (.call 354 [(.int .u8 (bitsV .xor .u8 (IntKind.u8.wrap s3_.2.1) (IntKind.u8.wrap s5_.2.1)))])) fun (r10_ : (Int) × (Int) × Unit) =>
 M.new (.cells (Row.ofList [(.int .u8 r10_.1)]) 5 false (0, 0) false) fun b11_ =>
 M.append 5 1 1 s5_.1.1 s5_.1.2.1 s5_.1.2.2 (.slice (some (Addr.mk b11_ 0 none)) 1 1) fun a12_ n13_ c14_ =>
 M.pure (.inl ((a12_, n13_, c14_), (IntKind.i64.wrap (s5_.2.1 + 1)), ())))
 (M.pure (.inr (.inl (s5_.1, ()))))
def f318c1 (X : Task → M Value) (L : LoopI) (x : (Int) × (Int) × Unit) (s3_ : ((Option Addr × Nat × Nat)) × (Int) × Unit) : M ((((Option Addr × Nat × Nat)) × (Int) × Unit) ⊕ ((((Option Addr × Nat × Nat)) × Unit) ⊕ (Unit))) :=
 M.bind (L (σ := ((Option Addr × Nat × Nat)) × (Int) × Unit) (ρ := (((Option Addr × Nat × Nat)) × Unit) ⊕ (Unit)) (fun s5_ =>
 f318c0 X L s3_ s5_ (decide (s5_.2.1 < x.1))) ((none, 0, 0), 0, ())) <| M.sum (fun (j16_ : ((Option Addr × Nat × Nat)) × Unit) =>
 M.new (.cells (Row.ofList [(.slice j16_.1.1 j16_.1.2.1 j16_.1.2.2)]) 30 false (0, 0) false) fun b17_ =>
 M.append 30 1 24 s3_.1.1 s3_.1.2.1 s3_.1.2.2 (.slice (some (Addr.mk b17_ 0 none)) 1 1) fun a18_ n19_ c20_ =>
 M.pure (.inl ((a18_, n19_, c20_), (IntKind.i64.wrap (s3_.2.1 + 1)), ()))) (fun _ => M.stuck)
def f318c2 (X : Task → M Value) (L : LoopI) (x : (Int) × (Int) × Unit) : M (Value) :=
 M.callS (.tuple [(.cell .slice), (.cell (.int .i64))]) (X (.call 353 [(.int .i64 x.1)])) fun (r2_ : ((Option Addr × Nat × Nat)) × (Int) × Unit) =>
 M.bind (L (σ := ((Option Addr × Nat × Nat)) × (Int) × Unit) (ρ := (((Option Addr × Nat × Nat)) × Unit) ⊕ (Unit)) (fun s3_ =>
 M.ite (decide (s3_.2.1 < x.2.1))
 (f318c1 X L x s3_)
 (M.pure (.inr (.inl (s3_.1, ()))))) (r2_.1, x.1, ())) <| M.sum (fun (j22_ : ((Option Addr × Nat × Nat)) × Unit) =>
 M.pure (.tuple ⟨[(.slice j22_.1.1 j22_.1.2.1 j22_.1.2.2), (.int .i64 0)]⟩)) (fun _ => M.stuck)
def f318 (X : Task → M Value) (L : LoopI) (x : (Int) × (Int) × Unit) : M Value :=
 M.callS (.one (.cell .bool)) (X (.call 248 [(.int .i64 x.1), (.int .i64 x.2.1)])) fun (r0_ : Bool) =>
 M.ite (!r0_)
 (M.pure (.tuple ⟨[(.slice none 0 0), (.int .i64 1)]⟩))
 (f318c2 X L x)

theorem e318 (X : Task → M Value) (L : LoopI) (x : (Int) × (Int) × Unit) : evBody CC { call := X, loop := L } 318 (shsInj [(.cell (.int .i64)), (.cell (.int .i64))] x) = f318 X L x := by kernel_rfl

/-- hayrick/hayrickref01.Mul -/
def f319c0 (X : Task → M Value) (L : LoopI) (x : (Int) × (Int) × Unit) (s0_ : (Int) × (Int) × Unit) : M (((Int) × (Int) × Unit) ⊕ (((Int) × Unit) ⊕ (Unit))) :=
 M.ite (decide (s0_.2.1 < 8))
 (M.join (fun (j2_ : (Int) × Unit) =>
 M.pure (.inl (j2_.1, (IntKind.i64.wrap (s0_.2.1 + 1)), ()))) fun go3_ =>
 M.guard (decide (0 ≤ s0_.2.1))
 (M.ite ((bitsV .and .i64 ((((IntKind.i64.wrap x.2.1) : Int)).fdiv (2 ^ (min (Int.toNat s0_.2.1) IntKind.i64.bits))) 1) == 1)
 (M.guard (decide (0 ≤ s0_.2.1))
 (go3_ ((bitsV .xor .i64 s0_.1 (IntKind.i64.wrap ((IntKind.i64.wrap x.1) * 2 ^ (min (Int.toNat s0_.2.1) IntKind.i64.bits)))), ())))
 (go3_ (s0_.1, ()))))
 (M.pure (.inr (.inl (s0_.1, ()))))
def f319c1 (X : Task → M Value) (L : LoopI) (s13_ : (Int) × (Int) × Unit) (v14_ : Bool) : M (((Int) × (Int) × Unit) ⊕ (((Int) × Unit) ⊕ (Unit))) :=
 M.ite v14_
 (M.join (fun (j15_ : (Int) × Unit) =>
 M.pure (.inl (j15_.1, (IntKind.i64.wrap (s13_.2.1 - 1)), ()))) fun go16_ =>
 M.guard (decide (0 ≤ s13_.2.1))
 (M.ite ((bitsV .and .i64 (((s13_.1 : Int)).fdiv (2 ^ (min (Int.toNat s13_.2.1) IntKind.i64.bits))) 1) == 1)
 (let v21_ : Int := IntKind.i64.wrap (s13_.2.1 - 8)
 M.guard (decide (0 ≤ v21_))
 (go16_ ((bitsV .xor .i64 s13_.1 (IntKind.i64.wrap (285 * 2 ^ (min (Int.toNat v21_) IntKind.i64.bits)))), ())))
 (go16_ (s13_.1, ()))))
 (M.pure (.inr (.inl (s13_.1, ()))))
def f319 (X : Task → M Value) (L : LoopI) (x : (Int) × (Int) × Unit) : M Value :=
 M.bind (L (σ := (Int) × (Int) × Unit) (ρ := ((Int) × Unit) ⊕ (Unit)) (fun s0_ =>
 f319c0 X L x s0_) (0, 0, ())) <| M.sum (fun (j12_ : (Int) × Unit) =>
 M.bind (L (σ := (Int) × (Int) × Unit) (ρ := ((Int) × Unit) ⊕ (Unit)) (fun s13_ =>
 f319c1 X L s13_ (decide (s13_.2.1 ≥ 8))) (j12_.1, 14, ())) <| M.sum (fun (j24_ : (Int) × Unit) =>
 M.pure (.int .u8 (IntKind.u8.wrap j24_.1))) (fun _ => M.stuck)) (fun _ => M.stuck)

theorem e319 (X : Task → M Value) (L : LoopI) (x : (Int) × (Int) × Unit) : evBody CC { call := X, loop := L } 319 (shsInj [(.cell (.int .u8)), (.cell (.int .u8))] x) = f319 X L x := by kernel_rfl

/-- hayrick/hayrickref07.Put -/
def f320c0 (X : Task → M Value) (L : LoopI) (x : (Int) × ((Option Addr × Nat × Nat)) × Unit) (s6_ : ((Option Addr × Nat × Nat)) × (Int) × Unit) (v11_ : Nat) (v12_ : Nat) : M ((((Option Addr × Nat × Nat)) × (Int) × Unit) ⊕ ((((Option Addr × Nat × Nat)) × Unit) ⊕ (Unit))) :=
 M.callS (.tuple [(.cell .slice), (.cell (.int .i64))]) (X (.call 355 [(.int .u64 x.1), (.slice (x.2.1.1.map (·.add (v12_ * 1))) (v11_ - v12_) (x.2.1.2.2 - v12_))])) fun (r13_ : ((Option Addr × Nat × Nat)) × (Int) × Unit) =>
 M.new (.cells (Row.ofList [(.slice r13_.1.1 r13_.1.2.1 r13_.1.2.2)]) 30 false (0, 0) false) fun b14_ =>
 M.append 30 1 24 s6_.1.1 s6_.1.2.1 s6_.1.2.2 (.slice (some (Addr.mk b14_ 0 none)) 1 1) fun a15_ n16_ c17_ =>
 M.pure (.inl ((a15_, n16_, c17_), (IntKind.i64.wrap (s6_.2.1 + 1)), ()))
def f320c1 (X : Task → M Value) (L : LoopI) (x : (Int) × ((Option Addr × Nat × Nat)) × Unit) (v2_ : Int) : M (Value) :=
 M.bind (L (σ := ((Option Addr × Nat × Nat)) × (Int) × Unit) (ρ := (((Option Addr × Nat × Nat)) × Unit) ⊕ (Unit)) (fun s6_ =>
 M.ite (decide (s6_.2.1 < v2_))
 (let v8_ : Int := IntKind.i64.wrap (56 * s6_.2.1)
 let v10_ : Int := IntKind.i64.wrap ((IntKind.i64.wrap (56 * s6_.2.1)) + 56)
 M.guard (decide (0 ≤ v10_) && decide (v10_ ≤ ((x.2.1.2.2 : Nat) : Int)))
 (let v11_ : Nat := (Int.toNat v10_)
 M.guard (decide (0 ≤ v8_) && decide (v8_ ≤ ((v11_ : Nat) : Int)))
 (f320c0 X L x s6_ v11_ (Int.toNat v8_))))
 (M.pure (.inr (.inl (s6_.1, ()))))) ((none, 0, 0), 0, ())) <| M.sum (fun (j19_ : ((Option Addr × Nat × Nat)) × Unit) =>
 M.pure (.tuple ⟨[(.slice j19_.1.1 j19_.1.2.1 j19_.1.2.2), (.int .i64 0)]⟩)) (fun _ => M.stuck)
def f320c2 (X : Task → M Value) (L : LoopI) (x : (Int) × ((Option Addr × Nat × Nat)) × Unit) (v0_ : Bool) : M (Value) :=
 M.ite v0_
 (M.pure (.tuple ⟨[(.slice none 0 0), (.int .i64 1)]⟩))
 (M.guard (!(decide (56 = 0)))
 (let v2_ : Int := IntKind.i64.wrap ((((x.2.1.2.1 : Nat) : Int) : Int).tdiv 56)
 M.join (fun (j3_ : (Bool) × Unit) =>
 M.ite j3_.1
 (M.pure (.tuple ⟨[(.slice none 0 0), (.int .i64 4)]⟩))
 (M.ite (decide (v2_ > 64))
 (M.pure (.tuple ⟨[(.slice none 0 0), (.int .i64 3)]⟩))
 (f320c1 X L x v2_))) fun go4_ =>
 M.ite (v2_ == 0)
 (go4_ (true, ()))
 (go4_ ((!((IntKind.i64.wrap (56 * v2_)) == ((x.2.1.2.1 : Nat) : Int))), ()))))
def f320 (X : Task → M Value) (L : LoopI) (x : (Int) × ((Option Addr × Nat × Nat)) × Unit) : M Value :=
 f320c2 X L x (x.1 == 0)

theorem e320 (X : Task → M Value) (L : LoopI) (x : (Int) × ((Option Addr × Nat × Nat)) × Unit) : evBody CC { call := X, loop := L } 320 (shsInj [(.cell (.int .u64)), (.cell .slice)] x) = f320 X L x := by kernel_rfl

/-- (*hayrick/hayrickref06.Array).Write -/
def f321c0 (X : Task → M Value) (L : LoopI) (x : (Option Addr) × (Int) × (Int) × ((Option Addr × Nat × Nat)) × Unit) (a5_ : Addr) (x6_ : (Option Addr × Nat × Nat)) : M (Value) :=
 M.callS (.one (.cell .slice)) (X (.call 209 [(.slice x.2.2.2.1.1 x.2.2.2.1.2.1 x.2.2.2.1.2.2)])) fun (r7_ : (Option Addr × Nat × Nat)) =>
 M.load (.cell .slice) 1 (a5_.add 2) fun (x8_ : (Option Addr × Nat × Nat)) => cond (veqv (.slice x8_.1 x8_.2.1 x8_.2.2) (.slice x6_.1 x6_.2.1 x6_.2.2)) (M.new (.cells (Row.ofList [(.int .i64 x.2.1), (.int .i64 x.2.2.1), (.slice r7_.1 r7_.2.1 r7_.2.2)]) 332 false (0, 0) false) fun b9_ =>
 M.append 332 3 40 x6_.1 x6_.2.1 x6_.2.2 (.slice (some (Addr.mk b9_ 0 none)) 1 1) fun a10_ n11_ c12_ =>
 M.deref x.1 fun a13_ =>
 M.store (a13_.add 2) [(.slice a10_ n11_ c12_)]
 (M.pure (.int .i64 0))) M.stuck
def f321 (X : Task → M Value) (L : LoopI) (x : (Option Addr) × (Int) × (Int) × ((Option Addr × Nat × Nat)) × Unit) : M Value :=
 M.callS (.one (.cell (.int .i64))) (X (.call 356 [(.pointer x.1), (.int .i64 x.2.1), (.int .i64 x.2.2.1)])) fun (r0_ : Int) =>
 M.ite (!(r0_ == 0))
 (M.pure (.int .i64 r0_))
 (M.ite (!(((x.2.2.2.1.2.1 : Nat) : Int) == 64))
 (M.pure (.int .i64 1))
 (M.callS (.one (.cell .bool)) (X (.call 208 [(.pointer x.1)])) fun (r4_ : Bool) =>
 M.ite r4_
 (M.pure (.int .i64 8))
 (M.deref x.1 fun a5_ =>
 M.load (.cell .slice) 1 (a5_.add 2) fun (x6_ : (Option Addr × Nat × Nat)) =>
 f321c0 X L x a5_ x6_)))

theorem e321 (X : Task → M Value) (L : LoopI) (x : (Option Addr) × (Int) × (Int) × ((Option Addr × Nat × Nat)) × Unit) : evBody CC { call := X, loop := L } 321 (shsInj [(.cell .ptr), (.cell (.int .i64)), (.cell (.int .i64)), (.cell .slice)] x) = f321 X L x := by kernel_rfl

/-- hayrick/points.At -/
def f327 (X : Task → M Value) (L : LoopI) (x : (Int) × Unit) : M Value :=
 M.join (fun (j0_ : (Bool) × Unit) =>
 M.ite j0_.1
 (M.pure (.tuple ⟨[(.bool false), (.int .i64 0), (.bool false)]⟩))
 (M.ite (decide (x.1 < 6))
 (M.pure (.tuple ⟨[(.bool true), (.int .i64 x.1), (.bool true)]⟩))
 (M.pure (.tuple ⟨[(.bool false), (.int .i64 (IntKind.i64.wrap (x.1 - 6))), (.bool true)]⟩)))) fun go1_ =>
 M.ite (decide (x.1 < 0))
 (go1_ (true, ()))
 (go1_ ((decide (x.1 ≥ 34)), ()))

theorem e327 (X : Task → M Value) (L : LoopI) (x : (Int) × Unit) : evBody CC { call := X, loop := L } 327 (shsInj [(.cell (.int .i64))] x) = f327 X L x := by kernel_rfl

/-- (*hayrick/stripe.Stripes).each -/
def f328c0 (X : Task → M Value) (L : LoopI) (x : (Option Addr) × (Int) × (Value) × Unit) (x1_ : Int) : M (Value) :=
 M.bind (L (σ := (Int) × Unit) (ρ := (Unit) ⊕ (Unit)) (fun s2_ =>
 M.ite (decide (s2_.1 < x1_))
 (M.join (fun (j4_ : Unit) =>
 M.pure (.inl ((IntKind.i64.wrap (s2_.1 + 1)), ()))) fun go5_ =>
 M.callS (.one (.cell .slice)) (X (.call 358 [(.pointer x.1), (.int .i64 s2_.1), (.int .i64 x.2.1)])) fun (r7_ : (Option Addr × Nat × Nat)) =>
 M.ite (!r7_.1.isNone)
 (callV CC ⟨X, L⟩ x.2.2.1 [(.int .i64 s2_.1), (.slice r7_.1 r7_.2.1 r7_.2.2)] fun w10_ => M.need (RSh.prj (.tuple []) w10_) fun (r9_ : Unit) =>
 go5_ (()))
 (go5_ (())))
 (M.pure (.inr (.inl (()))))) (0, ())) <| M.sum (fun (j11_ : Unit) =>
 M.pure (.tuple ⟨[]⟩)) (fun _ => M.stuck)
def f328 (X : Task → M Value) (L : LoopI) (x : (Option Addr) × (Int) × (Value) × Unit) : M Value :=
 M.deref x.1 fun a0_ =>
 M.load (.cell (.int .i64)) 1 ((a0_.add 1).add 1) fun (x1_ : Int) =>
 f328c0 X L x x1_

theorem e328 (X : Task → M Value) (L : LoopI) (x : (Option Addr) × (Int) × (Value) × Unit) : evBody CC { call := X, loop := L } 328 (shsInj [(.cell .ptr), (.cell (.int .i64)), (.cell .val)] x) = f328 X L x := by kernel_rfl

/-- (*hayrick/stripe.Stripes).Read$1 -/
def f329c0 (X : Task → M Value) (L : LoopI) (x : (Int) × ((Option Addr × Nat × Nat)) × (Option Addr) × (Option Addr) × (Option Addr) × (Option Addr) × Unit) (x4_ : (Option Addr × Nat × Nat)) (b5_ : Nat) (x7_ : (Option Addr × Nat × Nat)) (b8_ : Nat) : M (Value) :=
 M.append 3 1 8 x4_.1 x4_.2.1 x4_.2.2 (.slice (some (Addr.mk b5_ 0 none)) 1 1) fun a9_ n10_ c11_ =>
 M.deref x.2.2.2.2.2.1 fun a12_ =>
 M.load (.cell .slice) 1 a12_ fun (x13_ : (Option Addr × Nat × Nat)) => cond (veqv (.slice x13_.1 x13_.2.1 x13_.2.2) (.slice x7_.1 x7_.2.1 x7_.2.2)) (M.append 30 1 24 x7_.1 x7_.2.1 x7_.2.2 (.slice (some (Addr.mk b8_ 0 none)) 1 1) fun a14_ n15_ c16_ =>
 M.deref x.2.2.2.1 fun a17_ =>
 M.store a17_ [(.slice a9_ n10_ c11_)]
 (M.deref x.2.2.2.2.2.1 fun a18_ =>
 M.store a18_ [(.slice a14_ n15_ c16_)]
 (M.pure (.tuple ⟨[]⟩)))) M.stuck
def f329c1 (X : Task → M Value) (L : LoopI) (x : (Int) × ((Option Addr × Nat × Nat)) × (Option Addr) × (Option Addr) × (Option Addr) × (Option Addr) × Unit) (r0_ : (Int) × ((Option Addr × Nat × Nat)) × (Bool) × Unit) : M (Value) :=
 M.join (fun (j1_ : (Bool) × Unit) =>
 M.ite j1_.1
 (M.deref x.2.2.2.1 fun a3_ =>
 M.load (.cell .slice) 1 a3_ fun (x4_ : (Option Addr × Nat × Nat)) =>
 M.new (.cells (Row.ofList [(.int .i64 x.1)]) 3 false (0, 0) false) fun b5_ =>
 M.deref x.2.2.2.2.2.1 fun a6_ =>
 M.load (.cell .slice) 1 a6_ fun (x7_ : (Option Addr × Nat × Nat)) =>
 M.new (.cells (Row.ofList [(.slice r0_.2.1.1 r0_.2.1.2.1 r0_.2.1.2.2)]) 30 false (0, 0) false) fun b8_ =>
 f329c0 X L x x4_ b5_ x7_ b8_)
 (M.pure (.tuple ⟨[]⟩))) fun go2_ =>
 M.ite r0_.2.2.1
 (M.deref x.2.2.1 fun a19_ =>
 M.load (.cell (.int .u64)) 1 a19_ fun (x20_ : Int) =>
 M.ite (r0_.1 == x20_)
 (M.deref x.2.2.2.1 fun a22_ =>
 M.load (.cell .slice) 1 a22_ fun (x23_ : (Option Addr × Nat × Nat)) =>
 M.deref x.2.2.2.2.1 fun a25_ =>
 M.load (.cell .ptr) 1 a25_ fun (x26_ : Option Addr) =>
 M.deref x26_ fun a27_ =>
 M.load (.cell (.int .i64)) 1 ((a27_.add 1).add 0) fun (x28_ : Int) =>
 go2_ ((decide (((x23_.2.1 : Nat) : Int) < x28_)), ()))
 (go2_ (false, ())))
 (go2_ (false, ()))
def f329 (X : Task → M Value) (L : LoopI) (x : (Int) × ((Option Addr × Nat × Nat)) × (Option Addr) × (Option Addr) × (Option Addr) × (Option Addr) × Unit) : M Value :=
 M.callS (.tuple [(.cell (.int .u64)), (.cell .slice), (.cell .bool)]) (X (.call 330 [(.slice x.2.1.1 x.2.1.2.1 x.2.1.2.2)])) fun (r0_ : (Int) × ((Option Addr × Nat × Nat)) × (Bool) × Unit) =>
 f329c1 X L x r0_

theorem e329 (X : Task → M Value) (L : LoopI) (x : (Int) × ((Option Addr × Nat × Nat)) × (Option Addr) × (Option Addr) × (Option Addr) × (Option Addr) × Unit) : evBody CC { call := X, loop := L } 329 (shsInj [(.cell (.int .i64)), (.cell .slice), (.cell .ptr), (.cell .ptr), (.cell .ptr), (.cell .ptr)] x) = f329 X L x := by kernel_rfl

/-- hayrick/chunk.Take -/
def f330c0 (X : Task → M Value) (L : LoopI) (x : ((Option Addr × Nat × Nat)) × Unit) (b5_ : Nat) (b6_ : Nat) : M (Value) :=
 M.callS (.one (.cell .bool)) (X (.call 361 [(.slice x.1.1 x.1.2.1 x.1.2.2), (.func (.func 360) ⟨[]⟩ ⟨[(.pointer (some (Addr.mk b6_ 0 none))), (.pointer (some (Addr.mk b5_ 0 none)))]⟩)])) fun (r7_ : Bool) =>
 M.ite r7_
 (M.pure (.tuple ⟨[(.int .u64 0), (.slice none 0 0), (.bool false)]⟩))
 (M.load (.cell (.int .u64)) 1 (Addr.mk b5_ 0 none) fun (x8_ : Int) =>
 M.load (.cell .slice) 1 (Addr.mk b6_ 0 none) fun (x9_ : (Option Addr × Nat × Nat)) =>
 M.load (.cell .slice) 1 (Addr.mk b6_ 0 none) fun (x10_ : (Option Addr × Nat × Nat)) => cond (veqv (.slice x10_.1 x10_.2.1 x10_.2.2) (.slice x9_.1 x9_.2.1 x9_.2.2)) (M.pure (.tuple ⟨[(.int .u64 x8_), (.slice x9_.1 x9_.2.1 x9_.2.2), (.bool true)]⟩)) M.stuck)
def f330c1 (X : Task → M Value) (L : LoopI) (x : ((Option Addr × Nat × Nat)) × Unit) (a2_ : Addr) : M (Value) :=
 M.load (.cell .slice) 1 (a2_.add ((Int.toNat 0) * 1)) fun (x3_ : (Option Addr × Nat × Nat)) =>
 M.callS (.tuple [(.cell (.int .u64)), (.cell .slice), (.cell (.int .i64))]) (X (.call 359 [(.slice x3_.1 x3_.2.1 x3_.2.2)])) fun (r4_ : (Int) × ((Option Addr × Nat × Nat)) × (Int) × Unit) =>
 M.new (.cells (Row.ofList [(.int .u64 0)]) 206 false (0, 0) false) fun b5_ =>
 M.store (Addr.mk b5_ 0 none) [(.int .u64 r4_.1)]
 (M.new (.cells (Row.ofList [(.slice none 0 0)]) 30 false (0, 0) false) fun b6_ =>
 f330c0 X L x b5_ b6_)
def f330 (X : Task → M Value) (L : LoopI) (x : ((Option Addr × Nat × Nat)) × Unit) : M Value :=
 M.join (fun (j0_ : (Bool) × Unit) =>
 M.ite j0_.1
 (M.pure (.tuple ⟨[(.int .u64 0), (.slice none 0 0), (.bool false)]⟩))
 (M.guard (decide (0 ≤ 0) && decide (0 < ((x.1.2.1 : Nat) : Int)))
 (M.deref x.1.1 fun a2_ =>
 f330c1 X L x a2_))) fun go1_ =>
 M.ite (((x.1.2.1 : Nat) : Int) == 0)
 (go1_ (true, ()))
 (go1_ ((decide (((x.1.2.1 : Nat) : Int) > 64)), ()))

theorem e330 (X : Task → M Value) (L : LoopI) (x : ((Option Addr × Nat × Nat)) × Unit) : evBody CC { call := X, loop := L } 330 (shsInj [(.cell .slice)] x) = f330 X L x := by kernel_rfl

/-- hayrick/code.Decode -/
def f331c0 (X : Task → M Value) (L : LoopI) (x : (Int) × (Int) × ((Option Addr × Nat × Nat)) × ((Option Addr × Nat × Nat)) × Unit) (b2_ : Nat) (s4_ : (Int) × Unit) (x7_ : Int) : M (((Int) × Unit) ⊕ ((Unit) ⊕ ((((Option Addr × Nat × Nat)) × (Int) × Unit) ⊕ (Unit)))) :=
 M.join (fun (j8_ : (Bool) × Unit) =>
 M.ite j8_.1
 (M.pure (.inr (.inr (.inl ((none, 0, 0), 1, ())))))
 (M.guard (decide (0 ≤ x7_) && decide (x7_ < ((255 : Nat) : Int)))
 (M.store ((Addr.mk b2_ 0 none).add ((Int.toNat x7_) * 1)) [(.bool true)]
 (M.pure (.inl ((IntKind.i64.wrap (s4_.1 + 1)), ())))))) fun go9_ =>
 M.ite (decide (x7_ < 0))
 (go9_ (true, ()))
 (M.ite (decide (x7_ ≥ x.2.1))
 (go9_ (true, ()))
 (M.guard (decide (0 ≤ x7_) && decide (x7_ < ((255 : Nat) : Int)))
 (M.load (.cell .bool) 1 ((Addr.mk b2_ 0 none).add ((Int.toNat x7_) * 1)) fun (x13_ : Bool) =>
 go9_ (x13_, ()))))
def f331c1 (X : Task → M Value) (L : LoopI) (x : (Int) × (Int) × ((Option Addr × Nat × Nat)) × ((Option Addr × Nat × Nat)) × Unit) (v17_ : Nat) (s19_ : ((Option Addr × Nat × Nat)) × (Int) × Unit) : M ((((Option Addr × Nat × Nat)) × (Int) × Unit) ⊕ ((((Option Addr × Nat × Nat)) × Unit) ⊕ (Unit))) :=
 M.guard (decide (0 ≤ s19_.2.1) && decide (s19_.2.1 < (((v17_ - 0) : Nat) : Int)))
 (M.deref (x.2.2.1.1.map (·.add (0 * 1))) fun a21_ =>
 M.load (.cell (.int .i64)) 1 (a21_.add ((Int.toNat s19_.2.1) * 1)) fun (x22_ : Int) =>
 M.callS (.one (.cell .slice)) (X (.call 314 [(.int .i64 x.1), (.int .i64 x22_)])) fun (r23_ : (Option Addr × Nat × Nat)) =>
 M.new (.cells (Row.ofList [(.slice r23_.1 r23_.2.1 r23_.2.2)]) 30 false (0, 0) false) fun b24_ =>
 M.append 30 1 24 s19_.1.1 s19_.1.2.1 s19_.1.2.2 (.slice (some (Addr.mk b24_ 0 none)) 1 1) fun a25_ n26_ c27_ =>
 M.pure (.inl ((a25_, n26_, c27_), (IntKind.i64.wrap (s19_.2.1 + 1)), ())))
def f331c2 (X : Task → M Value) (L : LoopI) (x : (Int) × (Int) × ((Option Addr × Nat × Nat)) × ((Option Addr × Nat × Nat)) × Unit) (b32_ : Nat) (s34_ : (Int) × Unit) (x40_ : (Option Addr × Nat × Nat)) (x42_ : (Option Addr × Nat × Nat)) (v43_ : Nat) : M (((Int) × Unit) ⊕ ((Unit) ⊕ (Unit))) :=
 M.callS (.one (.cell .slice)) (X (.call 313 [(.slice x42_.1 x42_.2.1 x42_.2.2), (.slice (x.2.2.2.1.1.map (·.add (0 * 1))) (v43_ - 0) (x.2.2.2.1.2.2 - 0))])) fun (r44_ : (Option Addr × Nat × Nat)) =>
 M.load (.cell .slice) 1 ((Addr.mk b32_ 0 none).add ((Int.toNat s34_.1) * 1)) fun (x45_ : (Option Addr × Nat × Nat)) => cond (veqv (.slice x45_.1 x45_.2.1 x45_.2.2) (.slice x40_.1 x40_.2.1 x40_.2.2)) (M.copy 1 x40_.1 x40_.2.1 (.slice r44_.1 r44_.2.1 r44_.2.2) fun m46_ =>
 M.pure (.inl ((IntKind.i64.wrap (s34_.1 + 1)), ()))) M.stuck
def f331c3 (X : Task → M Value) (L : LoopI) (x : (Int) × (Int) × ((Option Addr × Nat × Nat)) × ((Option Addr × Nat × Nat)) × Unit) (r30_ : ((Option Addr × Nat × Nat)) × (Int) × Unit) (b32_ : Nat) (s34_ : (Int) × Unit) : M (((Int) × Unit) ⊕ ((Unit) ⊕ (Unit))) :=
 M.guard (decide (0 ≤ s34_.1) && decide (s34_.1 < (((Int.toNat x.1) : Nat) : Int)))
 (M.load (.cell .slice) 1 ((Addr.mk b32_ 0 none).add ((Int.toNat s34_.1) * 1)) fun (x40_ : (Option Addr × Nat × Nat)) =>
 M.guard (decide (0 ≤ s34_.1) && decide (s34_.1 < ((r30_.1.2.1 : Nat) : Int)))
 (M.deref r30_.1.1 fun a41_ =>
 M.load (.cell .slice) 1 (a41_.add ((Int.toNat s34_.1) * 1)) fun (x42_ : (Option Addr × Nat × Nat)) =>
 M.guard (decide (0 ≤ x.1) && decide (x.1 ≤ ((x.2.2.2.1.2.2 : Nat) : Int)))
 (f331c2 X L x b32_ s34_ x40_ x42_ (Int.toNat x.1))))
def f331c4 (X : Task → M Value) (L : LoopI) (x : (Int) × (Int) × ((Option Addr × Nat × Nat)) × ((Option Addr × Nat × Nat)) × Unit) (r30_ : ((Option Addr × Nat × Nat)) × (Int) × Unit) (b32_ : Nat) (s34_ : (Int) × Unit) (a36_ : Addr) : M (((Int) × Unit) ⊕ ((Unit) ⊕ (Unit))) :=
 M.load (.cell .slice) 1 (a36_.add ((Int.toNat 0) * 1)) fun (x37_ : (Option Addr × Nat × Nat)) =>
 let v38_ : Int := ((x37_.2.1 : Nat) : Int)
 M.guard (decide (0 ≤ v38_) && decide (v38_ ≤ v38_) && decide ((1 : Int) * v38_ ≤ 2 ^ 48))
 (M.new (.cells (Row.rep [(.int .u8 0)] (Int.toNat v38_)) 5 false (0, 0) false) fun b39_ =>
 M.guard (decide (0 ≤ s34_.1) && decide (s34_.1 < (((Int.toNat x.1) : Nat) : Int)))
 (M.store ((Addr.mk b32_ 0 none).add ((Int.toNat s34_.1) * 1)) [(.slice (some (Addr.mk b39_ 0 none)) (Int.toNat v38_) (Int.toNat v38_))]
 (f331c3 X L x r30_ b32_ s34_)))
def f331c5 (X : Task → M Value) (L : LoopI) (x : (Int) × (Int) × ((Option Addr × Nat × Nat)) × ((Option Addr × Nat × Nat)) × Unit) (r30_ : ((Option Addr × Nat × Nat)) × (Int) × Unit) : M (Value) :=
 M.guard (decide (0 ≤ x.1) && decide (x.1 ≤ x.1) && decide ((24 : Int) * x.1 ≤ 2 ^ 48))
 (M.new (.cells (Row.rep [(.slice none 0 0)] (Int.toNat x.1)) 30 false (0, 0) false) fun b32_ =>
 M.bind (L (σ := (Int) × Unit) (ρ := (Unit) ⊕ (Unit)) (fun s34_ =>
 M.ite (decide (s34_.1 < (((Int.toNat x.1) : Nat) : Int)))
 (M.guard (decide (0 ≤ 0) && decide (0 < ((x.2.2.2.1.2.1 : Nat) : Int)))
 (M.deref x.2.2.2.1.1 fun a36_ =>
 f331c4 X L x r30_ b32_ s34_ a36_))
 (M.pure (.inr (.inl (()))))) (0, ())) <| M.sum (fun (j48_ : Unit) =>
 M.pure (.tuple ⟨[(.slice (some (Addr.mk b32_ 0 none)) (Int.toNat x.1) (Int.toNat x.1)), (.int .i64 0)]⟩)) (fun _ => M.stuck))
def f331c6 (X : Task → M Value) (L : LoopI) (x : (Int) × (Int) × ((Option Addr × Nat × Nat)) × ((Option Addr × Nat × Nat)) × Unit) (v17_ : Nat) (v18_ : Int) : M (Value) :=
 M.bind (L (σ := ((Option Addr × Nat × Nat)) × (Int) × Unit) (ρ := (((Option Addr × Nat × Nat)) × Unit) ⊕ (Unit)) (fun s19_ =>
 M.ite (decide (s19_.2.1 < v18_))
 (f331c1 X L x v17_ s19_)
 (M.pure (.inr (.inl (s19_.1, ()))))) ((none, 0, 0), 0, ())) <| M.sum (fun (j29_ : ((Option Addr × Nat × Nat)) × Unit) =>
 M.callS (.tuple [(.cell .slice), (.cell (.int .i64))]) (X (.call 362 [(.slice j29_.1.1 j29_.1.2.1 j29_.1.2.2)])) fun (r30_ : ((Option Addr × Nat × Nat)) × (Int) × Unit) =>
 M.ite (!(r30_.2.1 == 0))
 (M.pure (.tuple ⟨[(.slice none 0 0), (.int .i64 r30_.2.1)]⟩))
 (f331c5 X L x r30_)) (fun _ => M.stuck)
def f331c7 (X : Task → M Value) (L : LoopI) (x : (Int) × (Int) × ((Option Addr × Nat × Nat)) × ((Option Addr × Nat × Nat)) × Unit) (b2_ : Nat) (v3_ : Int) : M (Value) :=
 M.bind (L (σ := (Int) × Unit) (ρ := (Unit) ⊕ ((((Option Addr × Nat × Nat)) × (Int) × Unit) ⊕ (Unit))) (fun s4_ =>
 M.ite (decide (s4_.1 < v3_))
 (M.guard (decide (0 ≤ s4_.1) && decide (s4_.1 < ((x.2.2.1.2.1 : Nat) : Int)))
 (M.deref x.2.2.1.1 fun a6_ =>
 M.load (.cell (.int .i64)) 1 (a6_.add ((Int.toNat s4_.1) * 1)) fun (x7_ : Int) =>
 f331c0 X L x b2_ s4_ x7_))
 (M.pure (.inr (.inl (()))))) (0, ())) <| M.sum (fun (j14_ : Unit) =>
 M.ite (decide (((x.2.2.1.2.1 : Nat) : Int) < x.1))
 (M.pure (.tuple ⟨[(.slice none 0 0), (.int .i64 4)]⟩))
 (M.guard (decide (0 ≤ x.1) && decide (x.1 ≤ ((x.2.2.1.2.2 : Nat) : Int)))
 (let v17_ : Nat := (Int.toNat x.1)
 f331c6 X L x v17_ (((v17_ - 0) : Nat) : Int)))) (M.sum (fun (j49_ : ((Option Addr × Nat × Nat)) × (Int) × Unit) =>
 M.pure (.tuple ⟨[(.slice j49_.1.1 j49_.1.2.1 j49_.1.2.2), (.int .i64 j49_.2.1)]⟩)) (fun _ => M.stuck))
def f331c8 (X : Task → M Value) (L : LoopI) (x : (Int) × (Int) × ((Option Addr × Nat × Nat)) × ((Option Addr × Nat × Nat)) × Unit) : M (Value) :=
 M.join (fun (j0_ : (Bool) × Unit) =>
 M.ite j0_.1
 (M.pure (.tuple ⟨[(.slice none 0 0), (.int .i64 1)]⟩))
 (M.new (.cells (Row.ofList (zc 467)) 467 false (0, 0) false) fun b2_ =>
 f331c7 X L x b2_ ((x.2.2.1.2.1 : Nat) : Int))) fun go1_ =>
 M.callS (.one (.cell .bool)) (X (.call 246 [(.int .i64 x.1), (.int .i64 x.2.1)])) fun (r50_ : Bool) =>
 M.ite (!r50_)
 (go1_ (true, ()))
 (M.ite (!(((x.2.2.1.2.1 : Nat) : Int) == ((x.2.2.2.1.2.1 : Nat) : Int)))
 (go1_ (true, ()))
 (M.callS (.one (.cell .bool)) (X (.call 312 [(.slice x.2.2.2.1.1 x.2.2.2.1.2.1 x.2.2.2.1.2.2)])) fun (r55_ : Bool) =>
 go1_ ((!r55_), ())))
def f331 (X : Task → M Value) (L : LoopI) (x : (Int) × (Int) × ((Option Addr × Nat × Nat)) × ((Option Addr × Nat × Nat)) × Unit) : M Value :=
 f331c8 X L x

theorem e331 (X : Task → M Value) (L : LoopI) (x : (Int) × (Int) × ((Option Addr × Nat × Nat)) × ((Option Addr × Nat × Nat)) × Unit) : evBody CC { call := X, loop := L } 331 (shsInj [(.cell (.int .i64)), (.cell (.int .i64)), (.cell .slice), (.cell .slice)] x) = f331 X L x := by kernel_rfl

/-- slices.insertionSortOrdered[int] -/
def f332c0 (X : Task → M Value) (L : LoopI) (x : ((Option Addr × Nat × Nat)) × (Int) × (Int) × Unit) (s3_ : (Int) × Unit) (v6_ : Int) (x9_ : Int) : M (((Int) × Unit) ⊕ ((Unit) ⊕ (Unit))) :=
 M.guard (decide (0 ≤ s3_.1) && decide (s3_.1 < ((x.1.2.1 : Nat) : Int)))
 (M.deref x.1.1 fun a10_ =>
 M.load (.cell (.int .i64)) 1 (a10_.add ((Int.toNat s3_.1) * 1)) fun (x11_ : Int) =>
 M.guard (decide (0 ≤ s3_.1) && decide (s3_.1 < ((x.1.2.1 : Nat) : Int)))
 (M.deref x.1.1 fun a12_ =>
 M.store (a12_.add ((Int.toNat s3_.1) * 1)) [(.int .i64 x9_)]
 (M.guard (decide (0 ≤ v6_) && decide (v6_ < ((x.1.2.1 : Nat) : Int)))
 (M.deref x.1.1 fun a13_ =>
 M.store (a13_.add ((Int.toNat v6_) * 1)) [(.int .i64 x11_)]
 (M.pure (.inl ((IntKind.i64.wrap (s3_.1 - 1)), ())))))))
def f332c1 (X : Task → M Value) (L : LoopI) (x : ((Option Addr × Nat × Nat)) × (Int) × (Int) × Unit) (s3_ : (Int) × Unit) (go5_ : ((Bool) × Unit) → M (((Int) × Unit) ⊕ ((Unit) ⊕ (Unit)))) : M (((Int) × Unit) ⊕ ((Unit) ⊕ (Unit))) :=
 M.guard (decide (0 ≤ s3_.1) && decide (s3_.1 < ((x.1.2.1 : Nat) : Int)))
 (M.deref x.1.1 fun a16_ =>
 M.load (.cell (.int .i64)) 1 (a16_.add ((Int.toNat s3_.1) * 1)) fun (x17_ : Int) =>
 let v18_ : Int := IntKind.i64.wrap (s3_.1 - 1)
 M.guard (decide (0 ≤ v18_) && decide (v18_ < ((x.1.2.1 : Nat) : Int)))
 (M.deref x.1.1 fun a19_ =>
 M.load (.cell (.int .i64)) 1 (a19_.add ((Int.toNat v18_) * 1)) fun (x20_ : Int) =>
 M.callS (.one (.cell .bool)) (X (.call 338 [(.int .i64 x17_), (.int .i64 x20_)])) fun (r21_ : Bool) =>
 go5_ (r21_, ())))
def f332c2 (X : Task → M Value) (L : LoopI) (x : ((Option Addr × Nat × Nat)) × (Int) × (Int) × Unit) (s1_ : (Int) × Unit) : M (((Int) × Unit) ⊕ ((Unit) ⊕ (Unit))) :=
 M.bind (L (σ := (Int) × Unit) (ρ := (Unit) ⊕ (Unit)) (fun s3_ =>
 M.join (fun (j4_ : (Bool) × Unit) =>
 M.ite j4_.1
 (let v7_ : Int := IntKind.i64.wrap (s3_.1 - 1)
 M.guard (decide (0 ≤ v7_) && decide (v7_ < ((x.1.2.1 : Nat) : Int)))
 (M.deref x.1.1 fun a8_ =>
 M.load (.cell (.int .i64)) 1 (a8_.add ((Int.toNat v7_) * 1)) fun (x9_ : Int) =>
 f332c0 X L x s3_ (IntKind.i64.wrap (s3_.1 - 1)) x9_))
 (M.pure (.inr (.inl (()))))) fun go5_ =>
 M.ite (decide (s3_.1 > x.2.1))
 (f332c1 X L x s3_ go5_)
 (go5_ (false, ()))) (s1_.1, ())) <| M.sum (fun (j22_ : Unit) =>
 M.pure (.inl ((IntKind.i64.wrap (s1_.1 + 1)), ()))) (fun _ => M.stuck)
def f332 (X : Task → M Value) (L : LoopI) (x : ((Option Addr × Nat × Nat)) × (Int) × (Int) × Unit) : M Value :=
 M.bind (L (σ := (Int) × Unit) (ρ := (Unit) ⊕ (Unit)) (fun s1_ =>
 M.ite (decide (s1_.1 < x.2.2.1))
 (f332c2 X L x s1_)
 (M.pure (.inr (.inl (()))))) ((IntKind.i64.wrap (x.2.1 + 1)), ())) <| M.sum (fun (j24_ : Unit) =>
 M.pure (.tuple ⟨[]⟩)) (fun _ => M.stuck)

theorem e332 (X : Task → M Value) (L : LoopI) (x : ((Option Addr × Nat × Nat)) × (Int) × (Int) × Unit) : evBody CC { call := X, loop := L } 332 (shsInj [(.cell .slice), (.cell (.int .i64)), (.cell (.int .i64))] x) = f332 X L x := by kernel_rfl

/-- slices.heapSortOrdered[int] -/
def f333c0 (X : Task → M Value) (L : LoopI) (x : ((Option Addr × Nat × Nat)) × (Int) × (Int) × Unit) (s9_ : (Int) × Unit) (v11_ : Int) (x14_ : Int) (x16_ : Int) : M (((Int) × Unit) ⊕ ((Unit) ⊕ (Unit))) :=
 M.guard (decide (0 ≤ x.2.1) && decide (x.2.1 < ((x.1.2.1 : Nat) : Int)))
 (M.deref x.1.1 fun a17_ =>
 M.store (a17_.add ((Int.toNat x.2.1) * 1)) [(.int .i64 x14_)]
 (M.guard (decide (0 ≤ v11_) && decide (v11_ < ((x.1.2.1 : Nat) : Int)))
 (M.deref x.1.1 fun a18_ =>
 M.store (a18_.add ((Int.toNat v11_) * 1)) [(.int .i64 x16_)]
 (M.callS (.tuple []) (X (.call 363 [(.slice x.1.1 x.1.2.1 x.1.2.2), (.int .i64 0), (.int .i64 s9_.1), (.int .i64 x.2.1)])) fun (r19_ : Unit) =>
 M.pure (.inl ((IntKind.i64.wrap (s9_.1 - 1)), ()))))))
def f333c1 (X : Task → M Value) (L : LoopI) (x : ((Option Addr × Nat × Nat)) × (Int) × (Int) × Unit) (s9_ : (Int) × Unit) (v10_ : Bool) : M (((Int) × Unit) ⊕ ((Unit) ⊕ (Unit))) :=
 M.ite v10_
 (let v12_ : Int := IntKind.i64.wrap (x.2.1 + s9_.1)
 M.guard (decide (0 ≤ v12_) && decide (v12_ < ((x.1.2.1 : Nat) : Int)))
 (M.deref x.1.1 fun a13_ =>
 M.load (.cell (.int .i64)) 1 (a13_.add ((Int.toNat v12_) * 1)) fun (x14_ : Int) =>
 M.guard (decide (0 ≤ x.2.1) && decide (x.2.1 < ((x.1.2.1 : Nat) : Int)))
 (M.deref x.1.1 fun a15_ =>
 M.load (.cell (.int .i64)) 1 (a15_.add ((Int.toNat x.2.1) * 1)) fun (x16_ : Int) =>
 f333c0 X L x s9_ (IntKind.i64.wrap (x.2.1 + s9_.1)) x14_ x16_)))
 (M.pure (.inr (.inl (()))))
def f333c2 (X : Task → M Value) (L : LoopI) (x : ((Option Addr × Nat × Nat)) × (Int) × (Int) × Unit) (v0_ : Int) (v2_ : Int) : M (Value) :=
 M.bind (L (σ := (Int) × Unit) (ρ := (Unit) ⊕ (Unit)) (fun s3_ =>
 M.ite (decide (s3_.1 ≥ 0))
 (M.callS (.tuple []) (X (.call 363 [(.slice x.1.1 x.1.2.1 x.1.2.2), (.int .i64 s3_.1), (.int .i64 v0_), (.int .i64 x.2.1)])) fun (r5_ : Unit) =>
 M.pure (.inl ((IntKind.i64.wrap (s3_.1 - 1)), ())))
 (M.pure (.inr (.inl (()))))) (v2_, ())) <| M.sum (fun (j7_ : Unit) =>
 M.bind (L (σ := (Int) × Unit) (ρ := (Unit) ⊕ (Unit)) (fun s9_ =>
 f333c1 X L x s9_ (decide (s9_.1 ≥ 0))) ((IntKind.i64.wrap (v0_ - 1)), ())) <| M.sum (fun (j21_ : Unit) =>
 M.pure (.tuple ⟨[]⟩)) (fun _ => M.stuck)) (fun _ => M.stuck)
def f333 (X : Task → M Value) (L : LoopI) (x : ((Option Addr × Nat × Nat)) × (Int) × (Int) × Unit) : M Value :=
 let v0_ : Int := IntKind.i64.wrap (x.2.2.1 - x.2.1)
 M.guard (!(decide (2 = 0)))
 (f333c2 X L x v0_ (IntKind.i64.wrap (((IntKind.i64.wrap (v0_ - 1)) : Int).tdiv 2)))

theorem e333 (X : Task → M Value) (L : LoopI) (x : ((Option Addr × Nat × Nat)) × (Int) × (Int) × Unit) : evBody CC { call := X, loop := L } 333 (shsInj [(.cell .slice), (.cell (.int .i64)), (.cell (.int .i64))] x) = f333 X L x := by kernel_rfl

/-- slices.breakPatternsOrdered[int] -/
def f334c0 (X : Task → M Value) (L : LoopI) (x : ((Option Addr × Nat × Nat)) × (Int) × (Int) × Unit) (s9_ : (Int) × Unit) (v21_ : Int) (x24_ : Int) : M (((Int) × Unit) ⊕ ((Unit) ⊕ (Unit))) :=
 M.guard (decide (0 ≤ s9_.1) && decide (s9_.1 < ((x.1.2.1 : Nat) : Int)))
 (M.deref x.1.1 fun a25_ =>
 M.load (.cell (.int .i64)) 1 (a25_.add ((Int.toNat s9_.1) * 1)) fun (x26_ : Int) =>
 M.guard (decide (0 ≤ s9_.1) && decide (s9_.1 < ((x.1.2.1 : Nat) : Int)))
 (M.deref x.1.1 fun a27_ =>
 M.store (a27_.add ((Int.toNat s9_.1) * 1)) [(.int .i64 x24_)]
 (M.guard (decide (0 ≤ v21_) && decide (v21_ < ((x.1.2.1 : Nat) : Int)))
 (M.deref x.1.1 fun a28_ =>
 M.store (a28_.add ((Int.toNat v21_) * 1)) [(.int .i64 x26_)]
 (M.pure (.inl ((IntKind.i64.wrap (s9_.1 + 1)), ())))))))
def f334c1 (X : Task → M Value) (L : LoopI) (x : ((Option Addr × Nat × Nat)) × (Int) × (Int) × Unit) (v0_ : Int) (r4_ : Int) (s9_ : (Int) × Unit) (r15_ : Int) : M (((Int) × Unit) ⊕ ((Unit) ⊕ (Unit))) :=
 let v18_ : Int := IntKind.i64.wrap (bitsV .and .u64 r15_ (IntKind.u64.wrap (r4_ - 1)))
 M.join (fun (j19_ : (Int) × Unit) =>
 let v22_ : Int := IntKind.i64.wrap (x.2.1 + j19_.1)
 M.guard (decide (0 ≤ v22_) && decide (v22_ < ((x.1.2.1 : Nat) : Int)))
 (M.deref x.1.1 fun a23_ =>
 M.load (.cell (.int .i64)) 1 (a23_.add ((Int.toNat v22_) * 1)) fun (x24_ : Int) =>
 f334c0 X L x s9_ (IntKind.i64.wrap (x.2.1 + j19_.1)) x24_)) fun go20_ =>
 M.ite (decide (v18_ ≥ v0_))
 (go20_ ((IntKind.i64.wrap (v18_ - v0_)), ()))
 (go20_ (v18_, ()))
def f334c2 (X : Task → M Value) (L : LoopI) (x : ((Option Addr × Nat × Nat)) × (Int) × (Int) × Unit) (v0_ : Int) (b3_ : Nat) (r4_ : Int) (v7_ : Int) : M (Value) :=
 M.bind (L (σ := (Int) × Unit) (ρ := (Unit) ⊕ (Unit)) (fun s9_ =>
 M.guard (!(decide (4 = 0)))
 (M.ite (decide (s9_.1 ≤ (IntKind.i64.wrap ((IntKind.i64.wrap (x.2.1 + (IntKind.i64.wrap ((IntKind.i64.wrap ((v0_ : Int).tdiv 4)) * 2)))) + 1))))
 (M.callS (.one (.cell (.int .u64))) (X (.call 365 [(.pointer (some (Addr.mk b3_ 0 none)))])) fun (r15_ : Int) =>
 f334c1 X L x v0_ r4_ s9_ r15_)
 (M.pure (.inr (.inl (())))))) ((IntKind.i64.wrap (v7_ - 1)), ())) <| M.sum (fun (j32_ : Unit) =>
 M.pure (.tuple ⟨[]⟩)) (fun _ => M.stuck)
def f334 (X : Task → M Value) (L : LoopI) (x : ((Option Addr × Nat × Nat)) × (Int) × (Int) × Unit) : M Value :=
 let v0_ : Int := IntKind.i64.wrap (x.2.2.1 - x.2.1)
 M.ite (decide (v0_ ≥ 8))
 (M.new (.cells (Row.ofList [(.int .u64 0)]) 471 false (0, 0) false) fun b3_ =>
 M.store (Addr.mk b3_ 0 none) [(.int .u64 (IntKind.u64.wrap v0_))]
 (M.callS (.one (.cell (.int .u64))) (X (.call 364 [(.int .i64 v0_)])) fun (r4_ : Int) =>
 M.guard (!(decide (4 = 0)))
 (f334c2 X L x v0_ b3_ r4_ (IntKind.i64.wrap (x.2.1 + (IntKind.i64.wrap ((IntKind.i64.wrap ((v0_ : Int).tdiv 4)) * 2)))))))
 (M.pure (.tuple ⟨[]⟩))

theorem e334 (X : Task → M Value) (L : LoopI) (x : ((Option Addr × Nat × Nat)) × (Int) × (Int) × Unit) : evBody CC { call := X, loop := L } 334 (shsInj [(.cell .slice), (.cell (.int .i64)), (.cell (.int .i64))] x) = f334 X L x := by kernel_rfl

/-- slices.choosePivotOrdered[int] -/
def f335c0 (X : Task → M Value) (L : LoopI) (x : ((Option Addr × Nat × Nat)) × (Int) × (Int) × Unit) (b1_ : Nat) (v4_ : Int) (v7_ : Int) (v10_ : Int) (go18_ : ((Int) × (Int) × (Int) × Unit) → M (Value)) : M (Value) :=
 M.callS (.one (.cell (.int .i64))) (X (.call 366 [(.slice x.1.1 x.1.2.1 x.1.2.2), (.int .i64 v4_), (.pointer (some (Addr.mk b1_ 0 none)))])) fun (r21_ : Int) =>
 M.callS (.one (.cell (.int .i64))) (X (.call 366 [(.slice x.1.1 x.1.2.1 x.1.2.2), (.int .i64 v7_), (.pointer (some (Addr.mk b1_ 0 none)))])) fun (r22_ : Int) =>
 M.callS (.one (.cell (.int .i64))) (X (.call 366 [(.slice x.1.1 x.1.2.1 x.1.2.2), (.int .i64 v10_), (.pointer (some (Addr.mk b1_ 0 none)))])) fun (r23_ : Int) =>
 go18_ (r21_, r22_, r23_, ())
def f335c1 (X : Task → M Value) (L : LoopI) (x : ((Option Addr × Nat × Nat)) × (Int) × (Int) × Unit) (v0_ : Int) (b1_ : Nat) (v4_ : Int) (v7_ : Int) (v10_ : Int) : M (Value) :=
 M.join (fun (j11_ : (Int) × Unit) =>
 M.load (.cell (.int .i64)) 1 (Addr.mk b1_ 0 none) fun (x13_ : Int) =>
 M.ite (x13_ == 0)
 (M.pure (.tuple ⟨[(.int .i64 j11_.1), (.int .i64 1)]⟩))
 (M.ite (x13_ == 12)
 (M.pure (.tuple ⟨[(.int .i64 j11_.1), (.int .i64 2)]⟩))
 (M.pure (.tuple ⟨[(.int .i64 j11_.1), (.int .i64 0)]⟩)))) fun go12_ =>
 M.ite (decide (v0_ ≥ 8))
 (M.join (fun (j17_ : (Int) × (Int) × (Int) × Unit) =>
 M.callS (.one (.cell (.int .i64))) (X (.call 367 [(.slice x.1.1 x.1.2.1 x.1.2.2), (.int .i64 j17_.1), (.int .i64 j17_.2.1), (.int .i64 j17_.2.2.1), (.pointer (some (Addr.mk b1_ 0 none)))])) fun (r19_ : Int) =>
 go12_ (r19_, ())) fun go18_ =>
 M.ite (decide (v0_ ≥ 50))
 (f335c0 X L x b1_ v4_ v7_ v10_ go18_)
 (go18_ (v4_, v7_, v10_, ())))
 (go12_ (v7_, ()))
def f335c2 (X : Task → M Value) (L : LoopI) (x : ((Option Addr × Nat × Nat)) × (Int) × (Int) × Unit) : M (Value) :=
 let v0_ : Int := IntKind.i64.wrap (x.2.2.1 - x.2.1)
 M.new (.cells (Row.ofList [(.int .i64 0)]) 3 false (0, 0) false) fun b1_ =>
 M.guard (!(decide (4 = 0)))
 (M.guard (!(decide (4 = 0)))
 (M.guard (!(decide (4 = 0)))
 (f335c1 X L x v0_ b1_ (IntKind.i64.wrap (x.2.1 + (IntKind.i64.wrap ((IntKind.i64.wrap ((v0_ : Int).tdiv 4)) * 1)))) (IntKind.i64.wrap (x.2.1 + (IntKind.i64.wrap ((IntKind.i64.wrap ((v0_ : Int).tdiv 4)) * 2)))) (IntKind.i64.wrap (x.2.1 + (IntKind.i64.wrap ((IntKind.i64.wrap ((v0_ : Int).tdiv 4)) * 3)))))))
def f335 (X : Task → M Value) (L : LoopI) (x : ((Option Addr × Nat × Nat)) × (Int) × (Int) × Unit) : M Value :=
 f335c2 X L x

theorem e335 (X : Task → M Value) (L : LoopI) (x : ((Option Addr × Nat × Nat)) × (Int) × (Int) × Unit) : evBody CC { call := X, loop := L } 335 (shsInj [(.cell .slice), (.cell (.int .i64)), (.cell (.int .i64))] x) = f335 X L x := by kernel_rfl

/-- slices.reverseRangeOrdered[int] -/
def f336c0 (X : Task → M Value) (L : LoopI) (x : ((Option Addr × Nat × Nat)) × (Int) × (Int) × Unit) (s1_ : (Int) × (Int) × Unit) (x4_ : Int) : M (((Int) × (Int) × Unit) ⊕ ((Unit) ⊕ (Unit))) :=
 M.guard (decide (0 ≤ s1_.1) && decide (s1_.1 < ((x.1.2.1 : Nat) : Int)))
 (M.deref x.1.1 fun a5_ =>
 M.load (.cell (.int .i64)) 1 (a5_.add ((Int.toNat s1_.1) * 1)) fun (x6_ : Int) =>
 M.guard (decide (0 ≤ s1_.1) && decide (s1_.1 < ((x.1.2.1 : Nat) : Int)))
 (M.deref x.1.1 fun a7_ =>
 M.store (a7_.add ((Int.toNat s1_.1) * 1)) [(.int .i64 x4_)]
 (M.guard (decide (0 ≤ s1_.2.1) && decide (s1_.2.1 < ((x.1.2.1 : Nat) : Int)))
 (M.deref x.1.1 fun a8_ =>
 M.store (a8_.add ((Int.toNat s1_.2.1) * 1)) [(.int .i64 x6_)]
 (M.pure (.inl ((IntKind.i64.wrap (s1_.1 + 1)), (IntKind.i64.wrap (s1_.2.1 - 1)), ())))))))
def f336 (X : Task → M Value) (L : LoopI) (x : ((Option Addr × Nat × Nat)) × (Int) × (Int) × Unit) : M Value :=
 M.bind (L (σ := (Int) × (Int) × Unit) (ρ := (Unit) ⊕ (Unit)) (fun s1_ =>
 M.ite (decide (s1_.1 < s1_.2.1))
 (M.guard (decide (0 ≤ s1_.2.1) && decide (s1_.2.1 < ((x.1.2.1 : Nat) : Int)))
 (M.deref x.1.1 fun a3_ =>
 M.load (.cell (.int .i64)) 1 (a3_.add ((Int.toNat s1_.2.1) * 1)) fun (x4_ : Int) =>
 f336c0 X L x s1_ x4_))
 (M.pure (.inr (.inl (()))))) (x.2.1, (IntKind.i64.wrap (x.2.2.1 - 1)), ())) <| M.sum (fun (j11_ : Unit) =>
 M.pure (.tuple ⟨[]⟩)) (fun _ => M.stuck)

theorem e336 (X : Task → M Value) (L : LoopI) (x : ((Option Addr × Nat × Nat)) × (Int) × (Int) × Unit) : evBody CC { call := X, loop := L } 336 (shsInj [(.cell .slice), (.cell (.int .i64)), (.cell (.int .i64))] x) = f336 X L x := by kernel_rfl

/-- slices.partialInsertionSortOrdered[int] -/
def f337c0 (X : Task → M Value) (L : LoopI) (x : ((Option Addr × Nat × Nat)) × (Int) × (Int) × Unit) (s6_ : (Int) × Unit) (go8_ : ((Bool) × Unit) → M (((Int) × Unit) ⊕ (((Int) × Unit) ⊕ (Unit)))) : M (((Int) × Unit) ⊕ (((Int) × Unit) ⊕ (Unit))) :=
 M.guard (decide (0 ≤ s6_.1) && decide (s6_.1 < ((x.1.2.1 : Nat) : Int)))
 (M.deref x.1.1 fun a11_ =>
 M.load (.cell (.int .i64)) 1 (a11_.add ((Int.toNat s6_.1) * 1)) fun (x12_ : Int) =>
 let v13_ : Int := IntKind.i64.wrap (s6_.1 - 1)
 M.guard (decide (0 ≤ v13_) && decide (v13_ < ((x.1.2.1 : Nat) : Int)))
 (M.deref x.1.1 fun a14_ =>
 M.load (.cell (.int .i64)) 1 (a14_.add ((Int.toNat v13_) * 1)) fun (x15_ : Int) =>
 M.callS (.one (.cell .bool)) (X (.call 338 [(.int .i64 x12_), (.int .i64 x15_)])) fun (r16_ : Bool) =>
 go8_ ((!r16_), ())))
def f337c1 (X : Task → M Value) (L : LoopI) (x : ((Option Addr × Nat × Nat)) × (Int) × (Int) × Unit) (s35_ : (Int) × Unit) (v44_ : Int) (x47_ : Int) : M (((Int) × Unit) ⊕ ((Unit) ⊕ (Unit))) :=
 M.guard (decide (0 ≤ s35_.1) && decide (s35_.1 < ((x.1.2.1 : Nat) : Int)))
 (M.deref x.1.1 fun a48_ =>
 M.load (.cell (.int .i64)) 1 (a48_.add ((Int.toNat s35_.1) * 1)) fun (x49_ : Int) =>
 M.guard (decide (0 ≤ s35_.1) && decide (s35_.1 < ((x.1.2.1 : Nat) : Int)))
 (M.deref x.1.1 fun a50_ =>
 M.store (a50_.add ((Int.toNat s35_.1) * 1)) [(.int .i64 x47_)]
 (M.guard (decide (0 ≤ v44_) && decide (v44_ < ((x.1.2.1 : Nat) : Int)))
 (M.deref x.1.1 fun a51_ =>
 M.store (a51_.add ((Int.toNat v44_) * 1)) [(.int .i64 x49_)]
 (M.pure (.inl ((IntKind.i64.wrap (s35_.1 + 1)), ())))))))
def f337c2 (X : Task → M Value) (L : LoopI) (x : ((Option Addr × Nat × Nat)) × (Int) × (Int) × Unit) (s35_ : (Int) × Unit) (x38_ : Int) (v39_ : Int) (a40_ : Addr) : M (((Int) × Unit) ⊕ ((Unit) ⊕ (Unit))) :=
 M.load (.cell (.int .i64)) 1 (a40_.add ((Int.toNat v39_) * 1)) fun (x41_ : Int) =>
 M.callS (.one (.cell .bool)) (X (.call 338 [(.int .i64 x38_), (.int .i64 x41_)])) fun (r42_ : Bool) =>
 M.ite (!r42_)
 (M.pure (.inr (.inl (()))))
 (let v45_ : Int := IntKind.i64.wrap (s35_.1 - 1)
 M.guard (decide (0 ≤ v45_) && decide (v45_ < ((x.1.2.1 : Nat) : Int)))
 (M.deref x.1.1 fun a46_ =>
 M.load (.cell (.int .i64)) 1 (a46_.add ((Int.toNat v45_) * 1)) fun (x47_ : Int) =>
 f337c1 X L x s35_ (IntKind.i64.wrap (s35_.1 - 1)) x47_))
def f337c3 (X : Task → M Value) (L : LoopI) (x : ((Option Addr × Nat × Nat)) × (Int) × (Int) × Unit) (go4_ : ((Int) × Unit) → M (((Int) × (Int) × Unit) ⊕ ((Unit) ⊕ (((Bool) × Unit) ⊕ (Unit))))) (j18_ : (Int) × Unit) (v34_ : Int) : M (((Int) × (Int) × Unit) ⊕ ((Unit) ⊕ (((Bool) × Unit) ⊕ (Unit)))) :=
 M.bind (L (σ := (Int) × Unit) (ρ := (Unit) ⊕ (Unit)) (fun s35_ =>
 M.ite (decide (s35_.1 < x.2.2.1))
 (M.guard (decide (0 ≤ s35_.1) && decide (s35_.1 < ((x.1.2.1 : Nat) : Int)))
 (M.deref x.1.1 fun a37_ =>
 M.load (.cell (.int .i64)) 1 (a37_.add ((Int.toNat s35_.1) * 1)) fun (x38_ : Int) =>
 let v39_ : Int := IntKind.i64.wrap (s35_.1 - 1)
 M.guard (decide (0 ≤ v39_) && decide (v39_ < ((x.1.2.1 : Nat) : Int)))
 (M.deref x.1.1 fun a40_ =>
 f337c2 X L x s35_ x38_ v39_ a40_)))
 (M.pure (.inr (.inl (()))))) (v34_, ())) <| M.sum (fun (j53_ : Unit) =>
 go4_ (j18_.1, ())) (fun _ => M.stuck)
def f337c4 (X : Task → M Value) (L : LoopI) (x : ((Option Addr × Nat × Nat)) × (Int) × (Int) × Unit) (s57_ : (Int) × Unit) (v66_ : Int) (x69_ : Int) : M (((Int) × Unit) ⊕ ((Unit) ⊕ (Unit))) :=
 M.guard (decide (0 ≤ s57_.1) && decide (s57_.1 < ((x.1.2.1 : Nat) : Int)))
 (M.deref x.1.1 fun a70_ =>
 M.load (.cell (.int .i64)) 1 (a70_.add ((Int.toNat s57_.1) * 1)) fun (x71_ : Int) =>
 M.guard (decide (0 ≤ s57_.1) && decide (s57_.1 < ((x.1.2.1 : Nat) : Int)))
 (M.deref x.1.1 fun a72_ =>
 M.store (a72_.add ((Int.toNat s57_.1) * 1)) [(.int .i64 x69_)]
 (M.guard (decide (0 ≤ v66_) && decide (v66_ < ((x.1.2.1 : Nat) : Int)))
 (M.deref x.1.1 fun a73_ =>
 M.store (a73_.add ((Int.toNat v66_) * 1)) [(.int .i64 x71_)]
 (M.pure (.inl ((IntKind.i64.wrap (s57_.1 - 1)), ())))))))
def f337c5 (X : Task → M Value) (L : LoopI) (x : ((Option Addr × Nat × Nat)) × (Int) × (Int) × Unit) (s57_ : (Int) × Unit) (x60_ : Int) (v61_ : Int) (a62_ : Addr) : M (((Int) × Unit) ⊕ ((Unit) ⊕ (Unit))) :=
 M.load (.cell (.int .i64)) 1 (a62_.add ((Int.toNat v61_) * 1)) fun (x63_ : Int) =>
 M.callS (.one (.cell .bool)) (X (.call 338 [(.int .i64 x60_), (.int .i64 x63_)])) fun (r64_ : Bool) =>
 M.ite (!r64_)
 (M.pure (.inr (.inl (()))))
 (let v67_ : Int := IntKind.i64.wrap (s57_.1 - 1)
 M.guard (decide (0 ≤ v67_) && decide (v67_ < ((x.1.2.1 : Nat) : Int)))
 (M.deref x.1.1 fun a68_ =>
 M.load (.cell (.int .i64)) 1 (a68_.add ((Int.toNat v67_) * 1)) fun (x69_ : Int) =>
 f337c4 X L x s57_ (IntKind.i64.wrap (s57_.1 - 1)) x69_))
def f337c6 (X : Task → M Value) (L : LoopI) (x : ((Option Addr × Nat × Nat)) × (Int) × (Int) × Unit) (go31_ : (Unit) → M (((Int) × (Int) × Unit) ⊕ ((Unit) ⊕ (((Bool) × Unit) ⊕ (Unit))))) (v56_ : Int) : M (((Int) × (Int) × Unit) ⊕ ((Unit) ⊕ (((Bool) × Unit) ⊕ (Unit)))) :=
 M.bind (L (σ := (Int) × Unit) (ρ := (Unit) ⊕ (Unit)) (fun s57_ =>
 M.ite (decide (s57_.1 ≥ 1))
 (M.guard (decide (0 ≤ s57_.1) && decide (s57_.1 < ((x.1.2.1 : Nat) : Int)))
 (M.deref x.1.1 fun a59_ =>
 M.load (.cell (.int .i64)) 1 (a59_.add ((Int.toNat s57_.1) * 1)) fun (x60_ : Int) =>
 let v61_ : Int := IntKind.i64.wrap (s57_.1 - 1)
 M.guard (decide (0 ≤ v61_) && decide (v61_ < ((x.1.2.1 : Nat) : Int)))
 (M.deref x.1.1 fun a62_ =>
 f337c5 X L x s57_ x60_ v61_ a62_)))
 (M.pure (.inr (.inl (()))))) (v56_, ())) <| M.sum (fun (j75_ : Unit) =>
 go31_ (())) (fun _ => M.stuck)
def f337c7 (X : Task → M Value) (L : LoopI) (x : ((Option Addr × Nat × Nat)) × (Int) × (Int) × Unit) (go4_ : ((Int) × Unit) → M (((Int) × (Int) × Unit) ⊕ ((Unit) ⊕ (((Bool) × Unit) ⊕ (Unit))))) (j18_ : (Int) × Unit) (v22_ : Int) (x25_ : Int) (x27_ : Int) (a28_ : Addr) : M (((Int) × (Int) × Unit) ⊕ ((Unit) ⊕ (((Bool) × Unit) ⊕ (Unit)))) :=
 M.store (a28_.add ((Int.toNat j18_.1) * 1)) [(.int .i64 x25_)]
 (M.guard (decide (0 ≤ v22_) && decide (v22_ < ((x.1.2.1 : Nat) : Int)))
 (M.deref x.1.1 fun a29_ =>
 M.store (a29_.add ((Int.toNat v22_) * 1)) [(.int .i64 x27_)]
 (M.join (fun (j30_ : Unit) =>
 M.ite (decide ((IntKind.i64.wrap (x.2.2.1 - j18_.1)) ≥ 2))
 (f337c3 X L x go4_ j18_ (IntKind.i64.wrap (j18_.1 + 1)))
 (go4_ (j18_.1, ()))) fun go31_ =>
 M.ite (decide ((IntKind.i64.wrap (j18_.1 - x.2.1)) ≥ 2))
 (f337c6 X L x go31_ (IntKind.i64.wrap (j18_.1 - 1)))
 (go31_ (())))))
def f337c8 (X : Task → M Value) (L : LoopI) (x : ((Option Addr × Nat × Nat)) × (Int) × (Int) × Unit) (go4_ : ((Int) × Unit) → M (((Int) × (Int) × Unit) ⊕ ((Unit) ⊕ (((Bool) × Unit) ⊕ (Unit))))) (j18_ : (Int) × Unit) (v22_ : Int) (v23_ : Int) : M (((Int) × (Int) × Unit) ⊕ ((Unit) ⊕ (((Bool) × Unit) ⊕ (Unit)))) :=
 M.guard (decide (0 ≤ v23_) && decide (v23_ < ((x.1.2.1 : Nat) : Int)))
 (M.deref x.1.1 fun a24_ =>
 M.load (.cell (.int .i64)) 1 (a24_.add ((Int.toNat v23_) * 1)) fun (x25_ : Int) =>
 M.guard (decide (0 ≤ j18_.1) && decide (j18_.1 < ((x.1.2.1 : Nat) : Int)))
 (M.deref x.1.1 fun a26_ =>
 M.load (.cell (.int .i64)) 1 (a26_.add ((Int.toNat j18_.1) * 1)) fun (x27_ : Int) =>
 M.guard (decide (0 ≤ j18_.1) && decide (j18_.1 < ((x.1.2.1 : Nat) : Int)))
 (M.deref x.1.1 fun a28_ =>
 f337c7 X L x go4_ j18_ v22_ x25_ x27_ a28_)))
def f337c9 (X : Task → M Value) (L : LoopI) (x : ((Option Addr × Nat × Nat)) × (Int) × (Int) × Unit) (s1_ : (Int) × (Int) × Unit) (go4_ : ((Int) × Unit) → M (((Int) × (Int) × Unit) ⊕ ((Unit) ⊕ (((Bool) × Unit) ⊕ (Unit))))) : M (((Int) × (Int) × Unit) ⊕ ((Unit) ⊕ (((Bool) × Unit) ⊕ (Unit)))) :=
 M.bind (L (σ := (Int) × Unit) (ρ := ((Int) × Unit) ⊕ (Unit)) (fun s6_ =>
 M.join (fun (j7_ : (Bool) × Unit) =>
 M.ite j7_.1
 (M.pure (.inl ((IntKind.i64.wrap (s6_.1 + 1)), ())))
 (M.pure (.inr (.inl (s6_.1, ()))))) fun go8_ =>
 M.ite (decide (s6_.1 < x.2.2.1))
 (f337c0 X L x s6_ go8_)
 (go8_ (false, ()))) (s1_.1, ())) <| M.sum (fun (j18_ : (Int) × Unit) =>
 M.ite (j18_.1 == x.2.2.1)
 (M.pure (.inr (.inr (.inl (true, ())))))
 (M.ite (decide ((IntKind.i64.wrap (x.2.2.1 - x.2.1)) < 50))
 (M.pure (.inr (.inr (.inl (false, ())))))
 (f337c8 X L x go4_ j18_ (IntKind.i64.wrap (j18_.1 - 1)) (IntKind.i64.wrap (j18_.1 - 1))))) (fun _ => M.stuck)
def f337 (X : Task → M Value) (L : LoopI) (x : ((Option Addr × Nat × Nat)) × (Int) × (Int) × Unit) : M Value :=
 M.bind (L (σ := (Int) × (Int) × Unit) (ρ := (Unit) ⊕ (((Bool) × Unit) ⊕ (Unit))) (fun s1_ =>
 M.ite (decide (s1_.2.1 < 5))
 (M.join (fun (j3_ : (Int) × Unit) =>
 M.pure (.inl (j3_.1, (IntKind.i64.wrap (s1_.2.1 + 1)), ()))) fun go4_ =>
 f337c9 X L x s1_ go4_)
 (M.pure (.inr (.inl (()))))) ((IntKind.i64.wrap (x.2.1 + 1)), 0, ())) <| M.sum (fun (j76_ : Unit) =>
 M.pure (.bool false)) (M.sum (fun (j77_ : (Bool) × Unit) =>
 M.pure (.bool j77_.1)) (fun _ => M.stuck))

theorem e337 (X : Task → M Value) (L : LoopI) (x : ((Option Addr × Nat × Nat)) × (Int) × (Int) × Unit) : evBody CC { call := X, loop := L } 337 (shsInj [(.cell .slice), (.cell (.int .i64)), (.cell (.int .i64))] x) = f337 X L x := by kernel_rfl

/-- cmp.Less[int] -/
def f338 (X : Task → M Value) (L : LoopI) (x : (Int) × (Int) × Unit) : M Value :=
 M.join (fun (j0_ : (Bool) × Unit) =>
 M.pure (.bool j0_.1)) fun go1_ =>
 M.callS (.one (.cell .bool)) (X (.call 368 [(.int .i64 x.1)])) fun (r2_ : Bool) =>
 M.ite r2_
 (M.callS (.one (.cell .bool)) (X (.call 368 [(.int .i64 x.2.1)])) fun (r3_ : Bool) =>
 M.ite (!r3_)
 (go1_ (true, ()))
 (go1_ ((decide (x.1 < x.2.1)), ())))
 (go1_ ((decide (x.1 < x.2.1)), ()))

theorem e338 (X : Task → M Value) (L : LoopI) (x : (Int) × (Int) × Unit) : evBody CC { call := X, loop := L } 338 (shsInj [(.cell (.int .i64)), (.cell (.int .i64))] x) = f338 X L x := by kernel_rfl

/-- slices.partitionEqualOrdered[int] -/
def f339c0 (X : Task → M Value) (L : LoopI) (x : ((Option Addr × Nat × Nat)) × (Int) × (Int) × (Int) × Unit) (s9_ : (Int) × Unit) (go11_ : ((Bool) × Unit) → M (((Int) × Unit) ⊕ (((Int) × Unit) ⊕ (Unit)))) (v13_ : Bool) : M (((Int) × Unit) ⊕ (((Int) × Unit) ⊕ (Unit))) :=
 M.ite v13_
 (M.guard (decide (0 ≤ x.2.1) && decide (x.2.1 < ((x.1.2.1 : Nat) : Int)))
 (M.deref x.1.1 fun a14_ =>
 M.load (.cell (.int .i64)) 1 (a14_.add ((Int.toNat x.2.1) * 1)) fun (x15_ : Int) =>
 M.guard (decide (0 ≤ s9_.1) && decide (s9_.1 < ((x.1.2.1 : Nat) : Int)))
 (M.deref x.1.1 fun a16_ =>
 M.load (.cell (.int .i64)) 1 (a16_.add ((Int.toNat s9_.1) * 1)) fun (x17_ : Int) =>
 M.callS (.one (.cell .bool)) (X (.call 338 [(.int .i64 x15_), (.int .i64 x17_)])) fun (r18_ : Bool) =>
 go11_ ((!r18_), ()))))
 (go11_ (false, ()))
def f339c1 (X : Task → M Value) (L : LoopI) (x : ((Option Addr × Nat × Nat)) × (Int) × (Int) × (Int) × Unit) (s21_ : (Int) × Unit) (go23_ : ((Bool) × Unit) → M (((Int) × Unit) ⊕ (((Int) × Unit) ⊕ (Unit)))) (v25_ : Bool) : M (((Int) × Unit) ⊕ (((Int) × Unit) ⊕ (Unit))) :=
 M.ite v25_
 (M.guard (decide (0 ≤ x.2.1) && decide (x.2.1 < ((x.1.2.1 : Nat) : Int)))
 (M.deref x.1.1 fun a26_ =>
 M.load (.cell (.int .i64)) 1 (a26_.add ((Int.toNat x.2.1) * 1)) fun (x27_ : Int) =>
 M.guard (decide (0 ≤ s21_.1) && decide (s21_.1 < ((x.1.2.1 : Nat) : Int)))
 (M.deref x.1.1 fun a28_ =>
 M.load (.cell (.int .i64)) 1 (a28_.add ((Int.toNat s21_.1) * 1)) fun (x29_ : Int) =>
 M.callS (.one (.cell .bool)) (X (.call 338 [(.int .i64 x27_), (.int .i64 x29_)])) fun (r30_ : Bool) =>
 go23_ (r30_, ()))))
 (go23_ (false, ()))
def f339c2 (X : Task → M Value) (L : LoopI) (x : ((Option Addr × Nat × Nat)) × (Int) × (Int) × (Int) × Unit) (j20_ : (Int) × Unit) (j31_ : (Int) × Unit) (x34_ : Int) (a35_ : Addr) : M (((Int) × (Int) × Unit) ⊕ (((Int) × Unit) ⊕ (Unit))) :=
 M.load (.cell (.int .i64)) 1 (a35_.add ((Int.toNat j20_.1) * 1)) fun (x36_ : Int) =>
 M.guard (decide (0 ≤ j20_.1) && decide (j20_.1 < ((x.1.2.1 : Nat) : Int)))
 (M.deref x.1.1 fun a37_ =>
 M.store (a37_.add ((Int.toNat j20_.1) * 1)) [(.int .i64 x34_)]
 (M.guard (decide (0 ≤ j31_.1) && decide (j31_.1 < ((x.1.2.1 : Nat) : Int)))
 (M.deref x.1.1 fun a38_ =>
 M.store (a38_.add ((Int.toNat j31_.1) * 1)) [(.int .i64 x36_)]
 (M.pure (.inl ((IntKind.i64.wrap (j20_.1 + 1)), (IntKind.i64.wrap (j31_.1 - 1)), ()))))))
def f339c3 (X : Task → M Value) (L : LoopI) (x : ((Option Addr × Nat × Nat)) × (Int) × (Int) × (Int) × Unit) (s8_ : (Int) × (Int) × Unit) (j20_ : (Int) × Unit) : M (((Int) × (Int) × Unit) ⊕ (((Int) × Unit) ⊕ (Unit))) :=
 M.bind (L (σ := (Int) × Unit) (ρ := ((Int) × Unit) ⊕ (Unit)) (fun s21_ =>
 M.join (fun (j22_ : (Bool) × Unit) =>
 M.ite j22_.1
 (M.pure (.inl ((IntKind.i64.wrap (s21_.1 - 1)), ())))
 (M.pure (.inr (.inl (s21_.1, ()))))) fun go23_ =>
 f339c1 X L x s21_ go23_ (decide (j20_.1 ≤ s21_.1))) (s8_.2.1, ())) <| M.sum (fun (j31_ : (Int) × Unit) =>
 M.ite (decide (j20_.1 > j31_.1))
 (M.pure (.inr (.inl (j20_.1, ()))))
 (M.guard (decide (0 ≤ j31_.1) && decide (j31_.1 < ((x.1.2.1 : Nat) : Int)))
 (M.deref x.1.1 fun a33_ =>
 M.load (.cell (.int .i64)) 1 (a33_.add ((Int.toNat j31_.1) * 1)) fun (x34_ : Int) =>
 M.guard (decide (0 ≤ j20_.1) && decide (j20_.1 < ((x.1.2.1 : Nat) : Int)))
 (M.deref x.1.1 fun a35_ =>
 f339c2 X L x j20_ j31_ x34_ a35_)))) (fun _ => M.stuck)
def f339c4 (X : Task → M Value) (L : LoopI) (x : ((Option Addr × Nat × Nat)) × (Int) × (Int) × (Int) × Unit) (v6_ : Int) (v7_ : Int) : M (Value) :=
 M.bind (L (σ := (Int) × (Int) × Unit) (ρ := ((Int) × Unit) ⊕ (Unit)) (fun s8_ =>
 M.bind (L (σ := (Int) × Unit) (ρ := ((Int) × Unit) ⊕ (Unit)) (fun s9_ =>
 M.join (fun (j10_ : (Bool) × Unit) =>
 M.ite j10_.1
 (M.pure (.inl ((IntKind.i64.wrap (s9_.1 + 1)), ())))
 (M.pure (.inr (.inl (s9_.1, ()))))) fun go11_ =>
 f339c0 X L x s9_ go11_ (decide (s9_.1 ≤ s8_.2.1))) (s8_.1, ())) <| M.sum (fun (j20_ : (Int) × Unit) =>
 f339c3 X L x s8_ j20_) (fun _ => M.stuck)) (v6_, v7_, ())) <| M.sum (fun (j41_ : (Int) × Unit) =>
 M.pure (.int .i64 j41_.1)) (fun _ => M.stuck)
def f339c5 (X : Task → M Value) (L : LoopI) (x : ((Option Addr × Nat × Nat)) × (Int) × (Int) × (Int) × Unit) (x1_ : Int) : M (Value) :=
 M.guard (decide (0 ≤ x.2.1) && decide (x.2.1 < ((x.1.2.1 : Nat) : Int)))
 (M.deref x.1.1 fun a2_ =>
 M.load (.cell (.int .i64)) 1 (a2_.add ((Int.toNat x.2.1) * 1)) fun (x3_ : Int) =>
 M.guard (decide (0 ≤ x.2.1) && decide (x.2.1 < ((x.1.2.1 : Nat) : Int)))
 (M.deref x.1.1 fun a4_ =>
 M.store (a4_.add ((Int.toNat x.2.1) * 1)) [(.int .i64 x1_)]
 (M.guard (decide (0 ≤ x.2.2.2.1) && decide (x.2.2.2.1 < ((x.1.2.1 : Nat) : Int)))
 (M.deref x.1.1 fun a5_ =>
 M.store (a5_.add ((Int.toNat x.2.2.2.1) * 1)) [(.int .i64 x3_)]
 (f339c4 X L x (IntKind.i64.wrap (x.2.1 + 1)) (IntKind.i64.wrap (x.2.2.1 - 1)))))))
def f339 (X : Task → M Value) (L : LoopI) (x : ((Option Addr × Nat × Nat)) × (Int) × (Int) × (Int) × Unit) : M Value :=
 M.guard (decide (0 ≤ x.2.2.2.1) && decide (x.2.2.2.1 < ((x.1.2.1 : Nat) : Int)))
 (M.deref x.1.1 fun a0_ =>
 M.load (.cell (.int .i64)) 1 (a0_.add ((Int.toNat x.2.2.2.1) * 1)) fun (x1_ : Int) =>
 f339c5 X L x x1_)

theorem e339 (X : Task → M Value) (L : LoopI) (x : ((Option Addr × Nat × Nat)) × (Int) × (Int) × (Int) × Unit) : evBody CC { call := X, loop := L } 339 (shsInj [(.cell .slice), (.cell (.int .i64)), (.cell (.int .i64)), (.cell (.int .i64))] x) = f339 X L x := by kernel_rfl

/-- slices.partitionOrdered[int] -/
def f340c0 (X : Task → M Value) (L : LoopI) (x : ((Option Addr × Nat × Nat)) × (Int) × (Int) × (Int) × Unit) (s8_ : (Int) × Unit) (go10_ : ((Bool) × Unit) → M (((Int) × Unit) ⊕ (((Int) × Unit) ⊕ (Unit)))) (v12_ : Bool) : M (((Int) × Unit) ⊕ (((Int) × Unit) ⊕ (Unit))) :=
 M.ite v12_
 (M.guard (decide (0 ≤ s8_.1) && decide (s8_.1 < ((x.1.2.1 : Nat) : Int)))
 (M.deref x.1.1 fun a13_ =>
 M.load (.cell (.int .i64)) 1 (a13_.add ((Int.toNat s8_.1) * 1)) fun (x14_ : Int) =>
 M.guard (decide (0 ≤ x.2.1) && decide (x.2.1 < ((x.1.2.1 : Nat) : Int)))
 (M.deref x.1.1 fun a15_ =>
 M.load (.cell (.int .i64)) 1 (a15_.add ((Int.toNat x.2.1) * 1)) fun (x16_ : Int) =>
 M.callS (.one (.cell .bool)) (X (.call 338 [(.int .i64 x14_), (.int .i64 x16_)])) fun (r17_ : Bool) =>
 go10_ (r17_, ()))))
 (go10_ (false, ()))
def f340c1 (X : Task → M Value) (L : LoopI) (x : ((Option Addr × Nat × Nat)) × (Int) × (Int) × (Int) × Unit) (s19_ : (Int) × Unit) (go21_ : ((Bool) × Unit) → M (((Int) × Unit) ⊕ (((Int) × Unit) ⊕ (Unit)))) (v23_ : Bool) : M (((Int) × Unit) ⊕ (((Int) × Unit) ⊕ (Unit))) :=
 M.ite v23_
 (M.guard (decide (0 ≤ s19_.1) && decide (s19_.1 < ((x.1.2.1 : Nat) : Int)))
 (M.deref x.1.1 fun a24_ =>
 M.load (.cell (.int .i64)) 1 (a24_.add ((Int.toNat s19_.1) * 1)) fun (x25_ : Int) =>
 M.guard (decide (0 ≤ x.2.1) && decide (x.2.1 < ((x.1.2.1 : Nat) : Int)))
 (M.deref x.1.1 fun a26_ =>
 M.load (.cell (.int .i64)) 1 (a26_.add ((Int.toNat x.2.1) * 1)) fun (x27_ : Int) =>
 M.callS (.one (.cell .bool)) (X (.call 338 [(.int .i64 x25_), (.int .i64 x27_)])) fun (r28_ : Bool) =>
 go21_ ((!r28_), ()))))
 (go21_ (false, ()))
def f340c2 (X : Task → M Value) (L : LoopI) (x : ((Option Addr × Nat × Nat)) × (Int) × (Int) × (Int) × Unit) (j30_ : (Int) × Unit) (x33_ : Int) : M (Value) :=
 M.guard (decide (0 ≤ j30_.1) && decide (j30_.1 < ((x.1.2.1 : Nat) : Int)))
 (M.deref x.1.1 fun a34_ =>
 M.load (.cell (.int .i64)) 1 (a34_.add ((Int.toNat j30_.1) * 1)) fun (x35_ : Int) =>
 M.guard (decide (0 ≤ j30_.1) && decide (j30_.1 < ((x.1.2.1 : Nat) : Int)))
 (M.deref x.1.1 fun a36_ =>
 M.store (a36_.add ((Int.toNat j30_.1) * 1)) [(.int .i64 x33_)]
 (M.guard (decide (0 ≤ x.2.1) && decide (x.2.1 < ((x.1.2.1 : Nat) : Int)))
 (M.deref x.1.1 fun a37_ =>
 M.store (a37_.add ((Int.toNat x.2.1) * 1)) [(.int .i64 x35_)]
 (M.pure (.tuple ⟨[(.int .i64 j30_.1), (.bool true)]⟩))))))
def f340c3 (X : Task → M Value) (L : LoopI) (x : ((Option Addr × Nat × Nat)) × (Int) × (Int) × (Int) × Unit) (s47_ : (Int) × Unit) (go49_ : ((Bool) × Unit) → M (((Int) × Unit) ⊕ (((Int) × Unit) ⊕ (Unit)))) (v51_ : Bool) : M (((Int) × Unit) ⊕ (((Int) × Unit) ⊕ (Unit))) :=
 M.ite v51_
 (M.guard (decide (0 ≤ s47_.1) && decide (s47_.1 < ((x.1.2.1 : Nat) : Int)))
 (M.deref x.1.1 fun a52_ =>
 M.load (.cell (.int .i64)) 1 (a52_.add ((Int.toNat s47_.1) * 1)) fun (x53_ : Int) =>
 M.guard (decide (0 ≤ x.2.1) && decide (x.2.1 < ((x.1.2.1 : Nat) : Int)))
 (M.deref x.1.1 fun a54_ =>
 M.load (.cell (.int .i64)) 1 (a54_.add ((Int.toNat x.2.1) * 1)) fun (x55_ : Int) =>
 M.callS (.one (.cell .bool)) (X (.call 338 [(.int .i64 x53_), (.int .i64 x55_)])) fun (r56_ : Bool) =>
 go49_ (r56_, ()))))
 (go49_ (false, ()))
def f340c4 (X : Task → M Value) (L : LoopI) (x : ((Option Addr × Nat × Nat)) × (Int) × (Int) × (Int) × Unit) (s58_ : (Int) × Unit) (go60_ : ((Bool) × Unit) → M (((Int) × Unit) ⊕ (((Int) × Unit) ⊕ (Unit)))) (v62_ : Bool) : M (((Int) × Unit) ⊕ (((Int) × Unit) ⊕ (Unit))) :=
 M.ite v62_
 (M.guard (decide (0 ≤ s58_.1) && decide (s58_.1 < ((x.1.2.1 : Nat) : Int)))
 (M.deref x.1.1 fun a63_ =>
 M.load (.cell (.int .i64)) 1 (a63_.add ((Int.toNat s58_.1) * 1)) fun (x64_ : Int) =>
 M.guard (decide (0 ≤ x.2.1) && decide (x.2.1 < ((x.1.2.1 : Nat) : Int)))
 (M.deref x.1.1 fun a65_ =>
 M.load (.cell (.int .i64)) 1 (a65_.add ((Int.toNat x.2.1) * 1)) fun (x66_ : Int) =>
 M.callS (.one (.cell .bool)) (X (.call 338 [(.int .i64 x64_), (.int .i64 x66_)])) fun (r67_ : Bool) =>
 go60_ ((!r67_), ()))))
 (go60_ (false, ()))
def f340c5 (X : Task → M Value) (L : LoopI) (x : ((Option Addr × Nat × Nat)) × (Int) × (Int) × (Int) × Unit) (j57_ : (Int) × Unit) (j69_ : (Int) × Unit) (x72_ : Int) (a73_ : Addr) : M (((Int) × (Int) × Unit) ⊕ (((Int) × Unit) ⊕ (Unit))) :=
 M.load (.cell (.int .i64)) 1 (a73_.add ((Int.toNat j57_.1) * 1)) fun (x74_ : Int) =>
 M.guard (decide (0 ≤ j57_.1) && decide (j57_.1 < ((x.1.2.1 : Nat) : Int)))
 (M.deref x.1.1 fun a75_ =>
 M.store (a75_.add ((Int.toNat j57_.1) * 1)) [(.int .i64 x72_)]
 (M.guard (decide (0 ≤ j69_.1) && decide (j69_.1 < ((x.1.2.1 : Nat) : Int)))
 (M.deref x.1.1 fun a76_ =>
 M.store (a76_.add ((Int.toNat j69_.1) * 1)) [(.int .i64 x74_)]
 (M.pure (.inl ((IntKind.i64.wrap (j57_.1 + 1)), (IntKind.i64.wrap (j69_.1 - 1)), ()))))))
def f340c6 (X : Task → M Value) (L : LoopI) (x : ((Option Addr × Nat × Nat)) × (Int) × (Int) × (Int) × Unit) (s46_ : (Int) × (Int) × Unit) (j57_ : (Int) × Unit) : M (((Int) × (Int) × Unit) ⊕ (((Int) × Unit) ⊕ (Unit))) :=
 M.bind (L (σ := (Int) × Unit) (ρ := ((Int) × Unit) ⊕ (Unit)) (fun s58_ =>
 M.join (fun (j59_ : (Bool) × Unit) =>
 M.ite j59_.1
 (M.pure (.inl ((IntKind.i64.wrap (s58_.1 - 1)), ())))
 (M.pure (.inr (.inl (s58_.1, ()))))) fun go60_ =>
 f340c4 X L x s58_ go60_ (decide (j57_.1 ≤ s58_.1))) (s46_.2.1, ())) <| M.sum (fun (j69_ : (Int) × Unit) =>
 M.ite (decide (j57_.1 > j69_.1))
 (M.pure (.inr (.inl (j69_.1, ()))))
 (M.guard (decide (0 ≤ j69_.1) && decide (j69_.1 < ((x.1.2.1 : Nat) : Int)))
 (M.deref x.1.1 fun a71_ =>
 M.load (.cell (.int .i64)) 1 (a71_.add ((Int.toNat j69_.1) * 1)) fun (x72_ : Int) =>
 M.guard (decide (0 ≤ j57_.1) && decide (j57_.1 < ((x.1.2.1 : Nat) : Int)))
 (M.deref x.1.1 fun a73_ =>
 f340c5 X L x j57_ j69_ x72_ a73_)))) (fun _ => M.stuck)
def f340c7 (X : Task → M Value) (L : LoopI) (x : ((Option Addr × Nat × Nat)) × (Int) × (Int) × (Int) × Unit) (j79_ : (Int) × Unit) (x81_ : Int) : M (Value) :=
 M.guard (decide (0 ≤ j79_.1) && decide (j79_.1 < ((x.1.2.1 : Nat) : Int)))
 (M.deref x.1.1 fun a82_ =>
 M.load (.cell (.int .i64)) 1 (a82_.add ((Int.toNat j79_.1) * 1)) fun (x83_ : Int) =>
 M.guard (decide (0 ≤ j79_.1) && decide (j79_.1 < ((x.1.2.1 : Nat) : Int)))
 (M.deref x.1.1 fun a84_ =>
 M.store (a84_.add ((Int.toNat j79_.1) * 1)) [(.int .i64 x81_)]
 (M.guard (decide (0 ≤ x.2.1) && decide (x.2.1 < ((x.1.2.1 : Nat) : Int)))
 (M.deref x.1.1 fun a85_ =>
 M.store (a85_.add ((Int.toNat x.2.1) * 1)) [(.int .i64 x83_)]
 (M.pure (.tuple ⟨[(.int .i64 j79_.1), (.bool false)]⟩))))))
def f340c8 (X : Task → M Value) (L : LoopI) (x : ((Option Addr × Nat × Nat)) × (Int) × (Int) × (Int) × Unit) (v44_ : Int) (v45_ : Int) : M (Value) :=
 M.bind (L (σ := (Int) × (Int) × Unit) (ρ := ((Int) × Unit) ⊕ (Unit)) (fun s46_ =>
 M.bind (L (σ := (Int) × Unit) (ρ := ((Int) × Unit) ⊕ (Unit)) (fun s47_ =>
 M.join (fun (j48_ : (Bool) × Unit) =>
 M.ite j48_.1
 (M.pure (.inl ((IntKind.i64.wrap (s47_.1 + 1)), ())))
 (M.pure (.inr (.inl (s47_.1, ()))))) fun go49_ =>
 f340c3 X L x s47_ go49_ (decide (s47_.1 ≤ s46_.2.1))) (s46_.1, ())) <| M.sum (fun (j57_ : (Int) × Unit) =>
 f340c6 X L x s46_ j57_) (fun _ => M.stuck)) (v44_, v45_, ())) <| M.sum (fun (j79_ : (Int) × Unit) =>
 M.guard (decide (0 ≤ x.2.1) && decide (x.2.1 < ((x.1.2.1 : Nat) : Int)))
 (M.deref x.1.1 fun a80_ =>
 M.load (.cell (.int .i64)) 1 (a80_.add ((Int.toNat x.2.1) * 1)) fun (x81_ : Int) =>
 f340c7 X L x j79_ x81_)) (fun _ => M.stuck)
def f340c9 (X : Task → M Value) (L : LoopI) (x : ((Option Addr × Nat × Nat)) × (Int) × (Int) × (Int) × Unit) (j18_ : (Int) × Unit) (j30_ : (Int) × Unit) (x39_ : Int) : M (Value) :=
 M.guard (decide (0 ≤ j18_.1) && decide (j18_.1 < ((x.1.2.1 : Nat) : Int)))
 (M.deref x.1.1 fun a40_ =>
 M.load (.cell (.int .i64)) 1 (a40_.add ((Int.toNat j18_.1) * 1)) fun (x41_ : Int) =>
 M.guard (decide (0 ≤ j18_.1) && decide (j18_.1 < ((x.1.2.1 : Nat) : Int)))
 (M.deref x.1.1 fun a42_ =>
 M.store (a42_.add ((Int.toNat j18_.1) * 1)) [(.int .i64 x39_)]
 (M.guard (decide (0 ≤ j30_.1) && decide (j30_.1 < ((x.1.2.1 : Nat) : Int)))
 (M.deref x.1.1 fun a43_ =>
 M.store (a43_.add ((Int.toNat j30_.1) * 1)) [(.int .i64 x41_)]
 (f340c8 X L x (IntKind.i64.wrap (j18_.1 + 1)) (IntKind.i64.wrap (j30_.1 - 1)))))))
def f340c10 (X : Task → M Value) (L : LoopI) (x : ((Option Addr × Nat × Nat)) × (Int) × (Int) × (Int) × Unit) (v7_ : Int) (j18_ : (Int) × Unit) : M (Value) :=
 M.bind (L (σ := (Int) × Unit) (ρ := ((Int) × Unit) ⊕ (Unit)) (fun s19_ =>
 M.join (fun (j20_ : (Bool) × Unit) =>
 M.ite j20_.1
 (M.pure (.inl ((IntKind.i64.wrap (s19_.1 - 1)), ())))
 (M.pure (.inr (.inl (s19_.1, ()))))) fun go21_ =>
 f340c1 X L x s19_ go21_ (decide (j18_.1 ≤ s19_.1))) (v7_, ())) <| M.sum (fun (j30_ : (Int) × Unit) =>
 M.ite (decide (j18_.1 > j30_.1))
 (M.guard (decide (0 ≤ x.2.1) && decide (x.2.1 < ((x.1.2.1 : Nat) : Int)))
 (M.deref x.1.1 fun a32_ =>
 M.load (.cell (.int .i64)) 1 (a32_.add ((Int.toNat x.2.1) * 1)) fun (x33_ : Int) =>
 f340c2 X L x j30_ x33_))
 (M.guard (decide (0 ≤ j30_.1) && decide (j30_.1 < ((x.1.2.1 : Nat) : Int)))
 (M.deref x.1.1 fun a38_ =>
 M.load (.cell (.int .i64)) 1 (a38_.add ((Int.toNat j30_.1) * 1)) fun (x39_ : Int) =>
 f340c9 X L x j18_ j30_ x39_))) (fun _ => M.stuck)
def f340c11 (X : Task → M Value) (L : LoopI) (x : ((Option Addr × Nat × Nat)) × (Int) × (Int) × (Int) × Unit) (x3_ : Int) (a5_ : Addr) : M (Value) :=
 M.store (a5_.add ((Int.toNat x.2.2.2.1) * 1)) [(.int .i64 x3_)]
 (let v7_ : Int := IntKind.i64.wrap (x.2.2.1 - 1)
 M.bind (L (σ := (Int) × Unit) (ρ := ((Int) × Unit) ⊕ (Unit)) (fun s8_ =>
 M.join (fun (j9_ : (Bool) × Unit) =>
 M.ite j9_.1
 (M.pure (.inl ((IntKind.i64.wrap (s8_.1 + 1)), ())))
 (M.pure (.inr (.inl (s8_.1, ()))))) fun go10_ =>
 f340c0 X L x s8_ go10_ (decide (s8_.1 ≤ v7_))) ((IntKind.i64.wrap (x.2.1 + 1)), ())) <| M.sum (fun (j18_ : (Int) × Unit) =>
 f340c10 X L x v7_ j18_) (fun _ => M.stuck))
def f340c12 (X : Task → M Value) (L : LoopI) (x : ((Option Addr × Nat × Nat)) × (Int) × (Int) × (Int) × Unit) (a0_ : Addr) : M (Value) :=
 M.load (.cell (.int .i64)) 1 (a0_.add ((Int.toNat x.2.2.2.1) * 1)) fun (x1_ : Int) =>
 M.guard (decide (0 ≤ x.2.1) && decide (x.2.1 < ((x.1.2.1 : Nat) : Int)))
 (M.deref x.1.1 fun a2_ =>
 M.load (.cell (.int .i64)) 1 (a2_.add ((Int.toNat x.2.1) * 1)) fun (x3_ : Int) =>
 M.guard (decide (0 ≤ x.2.1) && decide (x.2.1 < ((x.1.2.1 : Nat) : Int)))
 (M.deref x.1.1 fun a4_ =>
 M.store (a4_.add ((Int.toNat x.2.1) * 1)) [(.int .i64 x1_)]
 (M.guard (decide (0 ≤ x.2.2.2.1) && decide (x.2.2.2.1 < ((x.1.2.1 : Nat) : Int)))
 (M.deref x.1.1 fun a5_ =>
 f340c11 X L x x3_ a5_))))
def f340 (X : Task → M Value) (L : LoopI) (x : ((Option Addr × Nat × Nat)) × (Int) × (Int) × (Int) × Unit) : M Value :=
 M.guard (decide (0 ≤ x.2.2.2.1) && decide (x.2.2.2.1 < ((x.1.2.1 : Nat) : Int)))
 (M.deref x.1.1 fun a0_ =>
 f340c12 X L x a0_)

theorem e340 (X : Task → M Value) (L : LoopI) (x : ((Option Addr × Nat × Nat)) × (Int) × (Int) × (Int) × Unit) : evBody CC { call := X, loop := L } 340 (shsInj [(.cell .slice), (.cell (.int .i64)), (.cell (.int .i64)), (.cell (.int .i64))] x) = f340 X L x := by kernel_rfl

/-- math/bits.Len32 -/
def f341c0 (X : Task → M Value) (L : LoopI) (x : (Int) × Unit) : M (Value) :=
 M.join (fun (j0_ : (Int) × (Int) × Unit) =>
 M.join (fun (j2_ : (Int) × (Int) × Unit) =>
 let v4_ : Int := IntKind.u8.wrap j2_.1
 M.guard (decide (0 ≤ v4_) && decide (v4_ < (st24.size : Int)))
 (M.pure (.int .i64 (IntKind.i64.wrap (j2_.2.1 + (IntKind.i64.wrap (byteAt st24 v4_))))))) fun go3_ =>
 M.ite (decide (j0_.1 ≥ 256))
 (M.guard (decide (0 ≤ 8))
 (go3_ ((((j0_.1 : Int)).fdiv (2 ^ (min (Int.toNat 8) IntKind.u32.bits))), (IntKind.i64.wrap (j0_.2.1 + 8)), ())))
 (go3_ (j0_.1, j0_.2.1, ()))) fun go1_ =>
 M.ite (decide (x.1 ≥ 65536))
 (M.guard (decide (0 ≤ 16))
 (go1_ ((((x.1 : Int)).fdiv (2 ^ (min (Int.toNat 16) IntKind.u32.bits))), 16, ())))
 (go1_ (x.1, 0, ()))
def f341 (X : Task → M Value) (L : LoopI) (x : (Int) × Unit) : M Value :=
 f341c0 X L x

theorem e341 (X : Task → M Value) (L : LoopI) (x : (Int) × Unit) : evBody CC { call := X, loop := L } 341 (shsInj [(.cell (.int .u32))] x) = f341 X L x := by kernel_rfl

/-- math/bits.Len64 -/
def f342c0 (X : Task → M Value) (L : LoopI) (j0_ : (Int) × (Int) × Unit) : M (Value) :=
 M.join (fun (j2_ : (Int) × (Int) × Unit) =>
 M.join (fun (j4_ : (Int) × (Int) × Unit) =>
 let v6_ : Int := IntKind.u8.wrap j4_.1
 M.guard (decide (0 ≤ v6_) && decide (v6_ < (st24.size : Int)))
 (M.pure (.int .i64 (IntKind.i64.wrap (j4_.2.1 + (IntKind.i64.wrap (byteAt st24 v6_))))))) fun go5_ =>
 M.ite (decide (j2_.1 ≥ 256))
 (M.guard (decide (0 ≤ 8))
 (go5_ ((((j2_.1 : Int)).fdiv (2 ^ (min (Int.toNat 8) IntKind.u64.bits))), (IntKind.i64.wrap (j2_.2.1 + 8)), ())))
 (go5_ (j2_.1, j2_.2.1, ()))) fun go3_ =>
 M.ite (decide (j0_.1 ≥ 65536))
 (M.guard (decide (0 ≤ 16))
 (go3_ ((((j0_.1 : Int)).fdiv (2 ^ (min (Int.toNat 16) IntKind.u64.bits))), (IntKind.i64.wrap (j0_.2.1 + 16)), ())))
 (go3_ (j0_.1, j0_.2.1, ()))
def f342 (X : Task → M Value) (L : LoopI) (x : (Int) × Unit) : M Value :=
 M.join (fun (j0_ : (Int) × (Int) × Unit) =>
 f342c0 X L j0_) fun go1_ =>
 M.ite (decide (x.1 ≥ 4294967296))
 (M.guard (decide (0 ≤ 32))
 (go1_ ((((x.1 : Int)).fdiv (2 ^ (min (Int.toNat 32) IntKind.u64.bits))), 32, ())))
 (go1_ (x.1, 0, ()))

theorem e342 (X : Task → M Value) (L : LoopI) (x : (Int) × Unit) : evBody CC { call := X, loop := L } 342 (shsInj [(.cell (.int .u64))] x) = f342 X L x := by kernel_rfl

/-- hayrick/field.Add -/
def f348 (X : Task → M Value) (L : LoopI) (x : (Int) × (Int) × Unit) : M Value :=
 M.pure (.int .u8 (bitsV .xor .u8 x.1 x.2.1))

theorem e348 (X : Task → M Value) (L : LoopI) (x : (Int) × (Int) × Unit) : evBody CC { call := X, loop := L } 348 (shsInj [(.cell (.int .u8)), (.cell (.int .u8))] x) = f348 X L x := by kernel_rfl

/-- hayrick/field.Mul -/
def f349c0 (X : Task → M Value) (L : LoopI) (x : (Int) × (Int) × Unit) : M (Value) :=
 M.bind (L (σ := (Int) × (Int) × (Int) × Unit) (ρ := ((Int) × Unit) ⊕ (Unit)) (fun s0_ =>
 M.ite (decide (s0_.2.1 > 0))
 (M.join (fun (j2_ : (Int) × Unit) =>
 M.callS (.one (.cell (.int .u8))) (X (.call 374 [(.int .u8 s0_.1)])) fun (r4_ : Int) =>
 M.guard (decide (0 ≤ 1))
 (M.pure (.inl (r4_, (((s0_.2.1 : Int)).fdiv (2 ^ (min (Int.toNat 1) IntKind.u8.bits))), j2_.1, ())))) fun go3_ =>
 M.ite ((bitsV .and .u8 s0_.2.1 1) == 1)
 (go3_ ((bitsV .xor .u8 s0_.2.2.1 s0_.1), ()))
 (go3_ (s0_.2.2.1, ())))
 (M.pure (.inr (.inl (s0_.2.2.1, ()))))) (x.1, x.2.1, 0, ())) <| M.sum (fun (j9_ : (Int) × Unit) =>
 M.pure (.int .u8 j9_.1)) (fun _ => M.stuck)
def f349 (X : Task → M Value) (L : LoopI) (x : (Int) × (Int) × Unit) : M Value :=
 f349c0 X L x

theorem e349 (X : Task → M Value) (L : LoopI) (x : (Int) × (Int) × Unit) : evBody CC { call := X, loop := L } 349 (shsInj [(.cell (.int .u8)), (.cell (.int .u8))] x) = f349 X L x := by kernel_rfl

/-- hayrick/field.Inv -/
def f350 (X : Task → M Value) (L : LoopI) (x : (Int) × Unit) : M Value :=
 M.callS (.tuple [(.cell (.int .i64)), (.cell (.int .i64))]) (X (.call 375 [(.int .u8 x.1)])) fun (r0_ : (Int) × (Int) × Unit) =>
 M.ite (!(r0_.2.1 == 0))
 (M.pure (.tuple ⟨[(.int .u8 0), (.int .i64 r0_.2.1)]⟩))
 (M.callS (.one (.cell (.int .u8))) (X (.call 376 [(.int .i64 (IntKind.i64.wrap (0 - r0_.1)))])) fun (r3_ : Int) =>
 M.pure (.tuple ⟨[(.int .u8 r3_), (.int .i64 0)]⟩))

theorem e350 (X : Task → M Value) (L : LoopI) (x : (Int) × Unit) : evBody CC { call := X, loop := L } 350 (shsInj [(.cell (.int .u8))] x) = f350 X L x := by kernel_rfl

/-- hayrick/stamp.Put -/
def f351c0 (X : Task → M Value) (L : LoopI) (x : (Int) × ((Option Addr × Nat × Nat)) × Unit) (b2_ : Nat) : M (Value) :=
 M.bind (L (σ := (Int) × Unit) (ρ := (Unit) ⊕ (Unit)) (fun s3_ =>
 M.ite (decide (s3_.1 < 8))
 (let v6_ : Int := IntKind.i64.wrap (8 * (IntKind.i64.wrap (7 - s3_.1)))
 M.guard (decide (0 ≤ v6_))
 (M.guard (decide (0 ≤ s3_.1) && decide (s3_.1 < ((64 : Nat) : Int)))
 (M.store ((Addr.mk b2_ 0 none).add ((Int.toNat s3_.1) * 1)) [(.int .u8 (IntKind.u8.wrap (((x.1 : Int)).fdiv (2 ^ (min (Int.toNat v6_) IntKind.u64.bits)))))]
 (M.pure (.inl ((IntKind.i64.wrap (s3_.1 + 1)), ()))))))
 (M.pure (.inr (.inl (()))))) (0, ())) <| M.sum (fun (j10_ : Unit) =>
 M.guard (decide (0 ≤ 8) && decide (8 ≤ ((64 : Nat) : Int)))
 (let v11_ : Nat := (Int.toNat 8)
 M.copy 1 (some ((Addr.mk b2_ 0 none).add (v11_ * 1))) (64 - v11_) (.slice x.2.1.1 x.2.1.2.1 x.2.1.2.2) fun m12_ =>
 M.pure (.tuple ⟨[(.slice (some ((Addr.mk b2_ 0 none).add (0 * 1))) (64 - 0) (64 - 0)), (.int .i64 0)]⟩))) (fun _ => M.stuck)
def f351 (X : Task → M Value) (L : LoopI) (x : (Int) × ((Option Addr × Nat × Nat)) × Unit) : M Value :=
 M.ite (decide (((x.2.1.2.1 : Nat) : Int) > 56))
 (M.pure (.tuple ⟨[(.slice none 0 0), (.int .i64 3)]⟩))
 (M.new (.cells (Row.ofList (zc 320)) 320 false (0, 0) false) fun b2_ =>
 f351c0 X L x b2_)

theorem e351 (X : Task → M Value) (L : LoopI) (x : (Int) × ((Option Addr × Nat × Nat)) × Unit) : evBody CC { call := X, loop := L } 351 (shsInj [(.cell (.int .u64)), (.cell .slice)] x) = f351 X L x := by kernel_rfl

/-- (*hayrick/array.Array).ready -/
def f352c0 (X : Task → M Value) (L : LoopI) (x : (Option Addr) × (Int) × (Int) × Unit) : M (Value) :=
 M.join (fun (j4_ : (Bool) × Unit) =>
 M.ite j4_.1
 (M.pure (.int .i64 6))
 (M.callS (.one (.cell .bool)) (X (.call 266 [(.pointer x.1), (.int .i64 x.2.1)])) fun (r6_ : Bool) =>
 M.ite (!r6_)
 (M.pure (.int .i64 9))
 (M.pure (.int .i64 0)))) fun go5_ =>
 M.ite (decide (x.2.1 < 0))
 (go5_ (true, ()))
 (M.deref x.1 fun a9_ =>
 M.load (.cell .slice) 1 (a9_.add 1) fun (x10_ : (Option Addr × Nat × Nat)) =>
 M.ite (decide (x.2.1 ≥ ((x10_.2.1 : Nat) : Int)))
 (go5_ (true, ()))
 (M.ite (decide (x.2.2.1 < 0))
 (go5_ (true, ()))
 (M.deref x.1 fun a14_ =>
 M.load (.cell (.int .i64)) 1 (a14_.add 0) fun (x15_ : Int) =>
 go5_ ((decide (x.2.2.1 ≥ x15_)), ()))))
def f352 (X : Task → M Value) (L : LoopI) (x : (Option Addr) × (Int) × (Int) × Unit) : M Value :=
 M.join (fun (j0_ : (Bool) × Unit) =>
 M.ite j0_.1
 (M.pure (.int .i64 2))
 (M.deref x.1 fun a2_ =>
 M.load (.cell .bool) 1 (a2_.add 4) fun (x3_ : Bool) =>
 M.ite x3_
 (M.pure (.int .i64 8))
 (f352c0 X L x))) fun go1_ =>
 M.eqPtr x.1 none fun (q17_ : Bool) =>
 M.ite q17_
 (go1_ (true, ()))
 (M.deref x.1 fun a18_ =>
 M.load (.cell (.int .i64)) 1 (a18_.add 0) fun (x19_ : Int) =>
 go1_ ((x19_ == 0), ()))

theorem e352 (X : Task → M Value) (L : LoopI) (x : (Option Addr) × (Int) × (Int) × Unit) : evBody CC { call := X, loop := L } 352 (shsInj [(.cell .ptr), (.cell (.int .i64)), (.cell (.int .i64))] x) = f352 X L x := by kernel_rfl

/-- hayrick/hayrickref03.Identity -/
def f353c0 (X : Task → M Value) (L : LoopI) (x : (Int) × Unit) (s2_ : ((Option Addr × Nat × Nat)) × (Int) × Unit) : M ((((Option Addr × Nat × Nat)) × (Int) × Unit) ⊕ ((((Option Addr × Nat × Nat)) × Unit) ⊕ (Unit))) :=
 M.guard (decide (0 ≤ x.1) && decide (x.1 ≤ x.1) && decide ((1 : Int) * x.1 ≤ 2 ^ 48))
 (M.new (.cells (Row.rep [(.int .u8 0)] (Int.toNat x.1)) 5 false (0, 0) false) fun b4_ =>
 M.guard (decide (0 ≤ s2_.2.1) && decide (s2_.2.1 < (((Int.toNat x.1) : Nat) : Int)))
 (M.store ((Addr.mk b4_ 0 none).add ((Int.toNat s2_.2.1) * 1)) [(.int .u8 1)]
 (M.new (.cells (Row.ofList [(.slice (some (Addr.mk b4_ 0 none)) (Int.toNat x.1) (Int.toNat x.1))]) 30 false (0, 0) false) fun b5_ =>
 M.append 30 1 24 s2_.1.1 s2_.1.2.1 s2_.1.2.2 (.slice (some (Addr.mk b5_ 0 none)) 1 1) fun a6_ n7_ c8_ =>
 M.pure (.inl ((a6_, n7_, c8_), (IntKind.i64.wrap (s2_.2.1 + 1)), ())))))
def f353c1 (X : Task → M Value) (L : LoopI) (x : (Int) × Unit) : M (Value) :=
 M.join (fun (j0_ : (Bool) × Unit) =>
 M.ite j0_.1
 (M.pure (.tuple ⟨[(.slice none 0 0), (.int .i64 1)]⟩))
 (M.bind (L (σ := ((Option Addr × Nat × Nat)) × (Int) × Unit) (ρ := (((Option Addr × Nat × Nat)) × Unit) ⊕ (Unit)) (fun s2_ =>
 M.ite (decide (s2_.2.1 < x.1))
 (f353c0 X L x s2_)
 (M.pure (.inr (.inl (s2_.1, ()))))) ((none, 0, 0), 0, ())) <| M.sum (fun (j10_ : ((Option Addr × Nat × Nat)) × Unit) =>
 M.pure (.tuple ⟨[(.slice j10_.1.1 j10_.1.2.1 j10_.1.2.2), (.int .i64 0)]⟩)) (fun _ => M.stuck))) fun go1_ =>
 M.ite (decide (x.1 < 1))
 (go1_ (true, ()))
 (go1_ ((decide (x.1 > 255)), ()))
def f353 (X : Task → M Value) (L : LoopI) (x : (Int) × Unit) : M Value :=
 f353c1 X L x

theorem e353 (X : Task → M Value) (L : LoopI) (x : (Int) × Unit) : evBody CC { call := X, loop := L } 353 (shsInj [(.cell (.int .i64))] x) = f353 X L x := by kernel_rfl

/-- hayrick/hayrickref01.Inv -/
def f354c0 (X : Task → M Value) (L : LoopI) (x : (Int) × Unit) : M (Value) :=
 M.bind (L (σ := (Int) × Unit) (ρ := (Unit) ⊕ (((Int) × (Int) × Unit) ⊕ (Unit))) (fun s0_ =>
 M.ite (decide (s0_.1 < 256))
 (M.callS (.one (.cell (.int .u8))) (X (.call 319 [(.int .u8 x.1), (.int .u8 (IntKind.u8.wrap s0_.1))])) fun (r3_ : Int) =>
 M.ite (r3_ == 1)
 (M.pure (.inr (.inr (.inl ((IntKind.u8.wrap s0_.1), 0, ())))))
 (M.pure (.inl ((IntKind.i64.wrap (s0_.1 + 1)), ()))))
 (M.pure (.inr (.inl (()))))) (1, ())) <| M.sum (fun (j7_ : Unit) =>
 M.pure (.tuple ⟨[(.int .u8 0), (.int .i64 1)]⟩)) (M.sum (fun (j8_ : (Int) × (Int) × Unit) =>
 M.pure (.tuple ⟨[(.int .u8 j8_.1), (.int .i64 j8_.2.1)]⟩)) (fun _ => M.stuck))
def f354 (X : Task → M Value) (L : LoopI) (x : (Int) × Unit) : M Value :=
 f354c0 X L x

theorem e354 (X : Task → M Value) (L : LoopI) (x : (Int) × Unit) : evBody CC { call := X, loop := L } 354 (shsInj [(.cell (.int .u8))] x) = f354 X L x := by kernel_rfl

/-- hayrick/hayrickref05.Put -/
def f355c0 (X : Task → M Value) (L : LoopI) (x : (Int) × ((Option Addr × Nat × Nat)) × Unit) (b2_ : Nat) (s10_ : (Int) × Unit) (v11_ : Int) : M (((Int) × Unit) ⊕ ((Unit) ⊕ (Unit))) :=
 M.ite (decide (s10_.1 < v11_))
 (let v13_ : Int := IntKind.i64.wrap (8 + s10_.1)
 M.guard (decide (0 ≤ s10_.1) && decide (s10_.1 < ((x.2.1.2.1 : Nat) : Int)))
 (M.deref x.2.1.1 fun a14_ =>
 M.load (.cell (.int .u8)) 1 (a14_.add ((Int.toNat s10_.1) * 1)) fun (x15_ : Int) =>
 M.guard (decide (0 ≤ v13_) && decide (v13_ < (((Int.toNat 64) : Nat) : Int)))
 (M.store ((Addr.mk b2_ 0 none).add ((Int.toNat v13_) * 1)) [(.int .u8 x15_)]
 (M.pure (.inl ((IntKind.i64.wrap (s10_.1 + 1)), ()))))))
 (M.pure (.inr (.inl (()))))
def f355c1 (X : Task → M Value) (L : LoopI) (x : (Int) × ((Option Addr × Nat × Nat)) × Unit) (b2_ : Nat) : M (Value) :=
 M.bind (L (σ := (Int) × (Int) × Unit) (ρ := (Unit) ⊕ (Unit)) (fun s3_ =>
 M.ite (decide (s3_.2.1 ≥ 0))
 (M.guard (!(decide (256 = 0)))
 (M.guard (decide (0 ≤ s3_.2.1) && decide (s3_.2.1 < (((Int.toNat 64) : Nat) : Int)))
 (M.store ((Addr.mk b2_ 0 none).add ((Int.toNat s3_.2.1) * 1)) [(.int .u8 (IntKind.u8.wrap ((s3_.1 : Int).tmod 256)))]
 (M.guard (!(decide (256 = 0)))
 (M.pure (.inl ((IntKind.u64.wrap ((s3_.1 : Int).tdiv 256)), (IntKind.i64.wrap (s3_.2.1 - 1)), ())))))))
 (M.pure (.inr (.inl (()))))) (x.1, 7, ())) <| M.sum (fun (j9_ : Unit) =>
 M.bind (L (σ := (Int) × Unit) (ρ := (Unit) ⊕ (Unit)) (fun s10_ =>
 f355c0 X L x b2_ s10_ ((x.2.1.2.1 : Nat) : Int)) (0, ())) <| M.sum (fun (j17_ : Unit) =>
 M.pure (.tuple ⟨[(.slice (some (Addr.mk b2_ 0 none)) (Int.toNat 64) (Int.toNat 64)), (.int .i64 0)]⟩)) (fun _ => M.stuck)) (fun _ => M.stuck)
def f355 (X : Task → M Value) (L : LoopI) (x : (Int) × ((Option Addr × Nat × Nat)) × Unit) : M Value :=
 M.ite (decide (((x.2.1.2.1 : Nat) : Int) > 56))
 (M.pure (.tuple ⟨[(.slice none 0 0), (.int .i64 3)]⟩))
 (M.guard (decide (0 ≤ 64) && decide (64 ≤ 64) && decide ((1 : Int) * 64 ≤ 2 ^ 48))
 (M.new (.cells (Row.rep [(.int .u8 0)] (Int.toNat 64)) 5 false (0, 0) false) fun b2_ =>
 f355c1 X L x b2_))

theorem e355 (X : Task → M Value) (L : LoopI) (x : (Int) × ((Option Addr × Nat × Nat)) × Unit) : evBody CC { call := X, loop := L } 355 (shsInj [(.cell (.int .u64)), (.cell .slice)] x) = f355 X L x := by kernel_rfl

/-- (*hayrick/hayrickref06.Array).why -/
def f356c0 (X : Task → M Value) (L : LoopI) (x : (Option Addr) × (Int) × (Int) × Unit) : M (Value) :=
 M.join (fun (j2_ : (Bool) × Unit) =>
 M.ite j2_.1
 (M.pure (.int .i64 6))
 (M.deref x.1 fun a4_ =>
 M.load (.cell .slice) 1 (a4_.add 0) fun (x5_ : (Option Addr × Nat × Nat)) =>
 M.guard (decide (0 ≤ x.2.1) && decide (x.2.1 < ((x5_.2.1 : Nat) : Int)))
 (M.deref x5_.1 fun a6_ =>
 M.load (.cell .bool) 1 ((a6_.add ((Int.toNat x.2.1) * 2)).add 1) fun (x7_ : Bool) =>
 M.ite x7_
 (M.pure (.int .i64 9))
 (M.pure (.int .i64 0))))) fun go3_ =>
 M.ite (decide (x.2.1 < 0))
 (go3_ (true, ()))
 (M.deref x.1 fun a9_ =>
 M.load (.cell .slice) 1 (a9_.add 0) fun (x10_ : (Option Addr × Nat × Nat)) =>
 M.ite (decide (x.2.1 ≥ ((x10_.2.1 : Nat) : Int)))
 (go3_ (true, ()))
 (M.ite (decide (x.2.2.1 < 0))
 (go3_ (true, ()))
 (M.deref x.1 fun a14_ =>
 M.load (.cell (.int .i64)) 1 (a14_.add 1) fun (x15_ : Int) =>
 go3_ ((decide (x.2.2.1 ≥ x15_)), ()))))
def f356 (X : Task → M Value) (L : LoopI) (x : (Option Addr) × (Int) × (Int) × Unit) : M Value :=
 M.deref x.1 fun a0_ =>
 M.load (.cell .bool) 1 (a0_.add 4) fun (x1_ : Bool) =>
 M.ite x1_
 (M.pure (.int .i64 8))
 (f356c0 X L x)

theorem e356 (X : Task → M Value) (L : LoopI) (x : (Option Addr) × (Int) × (Int) × Unit) : evBody CC { call := X, loop := L } 356 (shsInj [(.cell .ptr), (.cell (.int .i64)), (.cell (.int .i64))] x) = f356 X L x := by kernel_rfl

/-- (*hayrick/stripe.Stripes).sectors -/
def f358c0 (X : Task → M Value) (L : LoopI) (x : (Option Addr) × (Int) × (Int) × Unit) (s0_ : ((Option Addr × Nat × Nat)) × (Int) × Unit) (x3_ : Option Addr) (v8_ : Int) : M ((((Option Addr × Nat × Nat)) × (Int) × Unit) ⊕ ((((Option Addr × Nat × Nat)) × Unit) ⊕ ((((Option Addr × Nat × Nat)) × Unit) ⊕ (Unit)))) :=
 M.callS (.tuple [(.cell .slice), (.cell (.int .i64))]) (X (.call 377 [(.pointer x3_), (.int .i64 x.2.1), (.int .i64 v8_)])) fun (r9_ : ((Option Addr × Nat × Nat)) × (Int) × Unit) =>
 M.ite (!(r9_.2.1 == 0))
 (M.pure (.inr (.inr (.inl ((none, 0, 0), ())))))
 (M.new (.cells (Row.ofList [(.slice r9_.1.1 r9_.1.2.1 r9_.1.2.2)]) 30 false (0, 0) false) fun b11_ =>
 M.append 30 1 24 s0_.1.1 s0_.1.2.1 s0_.1.2.2 (.slice (some (Addr.mk b11_ 0 none)) 1 1) fun a12_ n13_ c14_ =>
 M.pure (.inl ((a12_, n13_, c14_), (IntKind.i64.wrap (s0_.2.1 + 1)), ())))
def f358c1 (X : Task → M Value) (L : LoopI) (x : (Option Addr) × (Int) × (Int) × Unit) : M (Value) :=
 M.bind (L (σ := ((Option Addr × Nat × Nat)) × (Int) × Unit) (ρ := (((Option Addr × Nat × Nat)) × Unit) ⊕ ((((Option Addr × Nat × Nat)) × Unit) ⊕ (Unit))) (fun s0_ =>
 M.ite (decide (s0_.2.1 < 8))
 (M.deref x.1 fun a2_ =>
 M.load (.cell .ptr) 1 (a2_.add 0) fun (x3_ : Option Addr) =>
 M.deref x.1 fun a4_ =>
 M.load (.cell (.int .i64)) 1 (a4_.add 4) fun (x5_ : Int) =>
 f358c0 X L x s0_ x3_ (IntKind.i64.wrap ((IntKind.i64.wrap (x5_ + (IntKind.i64.wrap (x.2.2.1 * 8)))) + s0_.2.1)))
 (M.pure (.inr (.inl (s0_.1, ()))))) ((none, 0, 0), 0, ())) <| M.sum (fun (j16_ : ((Option Addr × Nat × Nat)) × Unit) =>
 M.pure (.slice j16_.1.1 j16_.1.2.1 j16_.1.2.2)) (M.sum (fun (j17_ : ((Option Addr × Nat × Nat)) × Unit) =>
 M.pure (.slice j17_.1.1 j17_.1.2.1 j17_.1.2.2)) (fun _ => M.stuck))
def f358 (X : Task → M Value) (L : LoopI) (x : (Option Addr) × (Int) × (Int) × Unit) : M Value :=
 f358c1 X L x

theorem e358 (X : Task → M Value) (L : LoopI) (x : (Option Addr) × (Int) × (Int) × Unit) : evBody CC { call := X, loop := L } 358 (shsInj [(.cell .ptr), (.cell (.int .i64)), (.cell (.int .i64))] x) = f358 X L x := by kernel_rfl

end
end Go.Proofs.YtcfnndmehnppnaaGreatDoor.pathKnown
