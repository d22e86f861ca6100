/-
  What the functions that FilesKnown reaches come to, part 1: each text, and that the reading gives it.
-/
import Derived.Test.YtcfnndmehnppnaaGreatFilesKnownH
import Derived.KernelRfl
set_option linter.unusedVariables false
namespace Go.Proofs.YtcfnndmehnppnaaGreat.filesKnown
open Go Go.Eng
noncomputable section
/-- slices.Chunk[[]byte,byte]$1 -/
def f114c0 (X : Task → M Value) (L : LoopI) (x : (Value) × (Option Addr) × (Option Addr) × Unit) (s0_ : (Int) × Unit) (x13_ : (Option Addr × Nat × Nat)) (v14_ : Int) (v15_ : Int) : M (((Int) × Unit) ⊕ ((Unit) ⊕ ((Unit) ⊕ (Unit)))) :=
 M.guard (decide (0 ≤ v15_) && decide (v15_ ≤ ((x13_.2.2 : Nat) : Int)))
 (let v16_ : Nat := (Int.toNat v15_)
 M.guard (decide (0 ≤ v14_) && decide (v14_ ≤ ((v16_ : Nat) : Int)))
 (let v17_ : Nat := (Int.toNat v14_)
 M.guard (decide (0 ≤ s0_.1) && decide (s0_.1 ≤ ((v17_ : Nat) : Int)))
 (let v18_ : Nat := (Int.toNat s0_.1)
 callV CC ⟨X, L⟩ x.1 [(.slice (x13_.1.map (·.add (v18_ * 1))) (v17_ - v18_) (v16_ - v18_))] fun w20_ => M.need (RSh.prj (.one (.cell .bool)) w20_) fun (r19_ : Bool) =>
 M.ite (!r19_)
 (M.pure (.inr (.inr (.inl (())))))
 (M.deref x.2.2.1 fun a22_ =>
 M.load (.cell (.int .i64)) 1 a22_ fun (x23_ : Int) =>
 M.pure (.inl ((IntKind.i64.wrap (s0_.1 + x23_)), ()))))))
def f114c1 (X : Task → M Value) (L : LoopI) (x : (Value) × (Option Addr) × (Option Addr) × Unit) (s0_ : (Int) × Unit) : M (((Int) × Unit) ⊕ ((Unit) ⊕ ((Unit) ⊕ (Unit)))) :=
 M.deref x.2.2.1 fun a5_ =>
 M.load (.cell (.int .i64)) 1 a5_ fun (x6_ : Int) =>
 M.deref x.2.1 fun a7_ =>
 M.load (.cell .slice) 1 a7_ fun (x8_ : (Option Addr × Nat × Nat)) =>
 M.guard (decide (0 ≤ s0_.1) && decide (s0_.1 ≤ ((x8_.2.1 : Nat) : Int)))
 (let v10_ : Int := (((x8_.2.1 - (Int.toNat s0_.1)) : Nat) : Int)
 let v11_ : Int := (if v10_ < x6_ then v10_ else x6_)
 M.deref x.2.1 fun a12_ =>
 M.load (.cell .slice) 1 a12_ fun (x13_ : (Option Addr × Nat × Nat)) =>
 f114c0 X L x s0_ x13_ (IntKind.i64.wrap (s0_.1 + v11_)) (IntKind.i64.wrap (s0_.1 + v11_)))
def f114 (X : Task → M Value) (L : LoopI) (x : (Value) × (Option Addr) × (Option Addr) × Unit) : M Value :=
 M.bind (L (σ := (Int) × Unit) (ρ := (Unit) ⊕ ((Unit) ⊕ (Unit))) (fun s0_ =>
 M.deref x.2.1 fun a1_ =>
 M.load (.cell .slice) 1 a1_ fun (x2_ : (Option Addr × Nat × Nat)) =>
 M.ite (decide (s0_.1 < ((x2_.2.1 : Nat) : Int)))
 (f114c1 X L x s0_)
 (M.pure (.inr (.inl (()))))) (0, ())) <| M.sum (fun (j25_ : Unit) =>
 M.pure (.tuple ⟨[]⟩)) (M.sum (fun (j26_ : Unit) =>
 M.pure (.tuple ⟨[]⟩)) (fun _ => M.stuck))

theorem e114 (X : Task → M Value) (L : LoopI) (x : (Value) × (Option Addr) × (Option Addr) × Unit) : evBody CC { call := X, loop := L } 114 (shsInj [(.cell .val), (.cell .ptr), (.cell .ptr)] x) = f114 X L x := by kernel_rfl

/-- hayrick/hayrickref06.blank -/
def f115c0 (X : Task → M Value) (L : LoopI) (b1_ : Nat) (s2_ : (Int) × Unit) (x4_ : (Option Addr × Nat × Nat)) : M (((Int) × Unit) ⊕ ((Unit) ⊕ (Unit))) :=
 M.guard (decide (0 ≤ 64) && decide (64 ≤ 64) && decide ((1 : Int) * 64 ≤ 2 ^ 48))
 (M.new (.cells (Row.rep [(.int .u8 0)] (Int.toNat 64)) 5 false (0, 0) false) fun b5_ =>
 M.new (.cells (Row.ofList [(.slice (some (Addr.mk b5_ 0 none)) (Int.toNat 64) (Int.toNat 64))]) 49 false (0, 0) false) fun b6_ =>
 M.append 49 1 24 x4_.1 x4_.2.1 x4_.2.2 (.slice (some (Addr.mk b6_ 0 none)) 1 1) fun a7_ n8_ c9_ =>
 M.store ((Addr.mk b1_ 0 none).add 0) [(.slice a7_ n8_ c9_)]
 (M.pure (.inl ((IntKind.i64.wrap (s2_.1 + 1)), ()))))
def f115c1 (X : Task → M Value) (L : LoopI) (x : (Int) × Unit) (b0_ : Nat) (b1_ : Nat) : M (Value) :=
 M.bind (L (σ := (Int) × Unit) (ρ := (Unit) ⊕ (Unit)) (fun s2_ =>
 M.ite (decide (s2_.1 < x.1))
 (M.load (.cell .slice) 1 ((Addr.mk b1_ 0 none).add 0) fun (x4_ : (Option Addr × Nat × Nat)) =>
 f115c0 X L b1_ s2_ x4_)
 (M.pure (.inr (.inl (()))))) (0, ())) <| M.sum (fun (j11_ : Unit) =>
 M.load (.agg [.slice, .bool]) 2 (Addr.mk b1_ 0 none) fun (x12_ : (Option Addr × Nat × Nat) × Bool × Unit) =>
 M.store (Addr.mk b0_ 0 none) [(.slice x12_.1.1 x12_.1.2.1 x12_.1.2.2), (.bool x12_.2.1)]
 (M.load (.agg [.slice, .bool]) 2 (Addr.mk b0_ 0 none) fun (x13_ : (Option Addr × Nat × Nat) × Bool × Unit) =>
 M.pure (.agg ⟨[(.slice x13_.1.1 x13_.1.2.1 x13_.1.2.2), (.bool x13_.2.1)]⟩))) (fun _ => M.stuck)
def f115 (X : Task → M Value) (L : LoopI) (x : (Int) × Unit) : M Value :=
 M.new (.cells (Row.ofList [(.slice none 0 0), (.bool false)]) 213 false (0, 0) false) fun b0_ =>
 M.new (.cells (Row.ofList [(.slice none 0 0), (.bool false)]) 213 false (0, 0) false) fun b1_ =>
 M.store (Addr.mk b1_ 0 none) [(.slice none 0 0), (.bool false)]
 (f115c1 X L x b0_ b1_)

theorem e115 (X : Task → M Value) (L : LoopI) (x : (Int) × Unit) : evBody CC { call := X, loop := L } 115 (shsInj [(.cell (.int .i64))] x) = f115 X L x := by kernel_rfl

/-- (*hayrick/array.Array).Disks -/
def f116 (X : Task → M Value) (L : LoopI) (x : (Option Addr) × Unit) : M Value :=
 M.eqPtr x.1 none fun (q0_ : Bool) =>
 M.ite q0_
 (M.pure (.int .i64 0))
 (M.deref x.1 fun a1_ =>
 M.load (.cell .slice) 1 (a1_.add 1) fun (x2_ : (Option Addr × Nat × Nat)) =>
 M.pure (.int .i64 ((x2_.2.1 : Nat) : Int)))

theorem e116 (X : Task → M Value) (L : LoopI) (x : (Option Addr) × Unit) : evBody CC { call := X, loop := L } 116 (shsInj [(.cell .ptr)] x) = f116 X L x := by kernel_rfl

/-- hayrick/code.May -/
def f117 (X : Task → M Value) (L : LoopI) (x : (Int) × (Int) × Unit) : M Value :=
 M.join (fun (j0_ : (Bool) × Unit) =>
 M.pure (.bool j0_.1)) fun go1_ =>
 M.ite (decide (x.1 ≥ 1))
 (M.ite (decide (x.2.1 > x.1))
 (go1_ ((decide (x.2.1 ≤ 255)), ()))
 (go1_ (false, ())))
 (go1_ (false, ()))

theorem e117 (X : Task → M Value) (L : LoopI) (x : (Int) × (Int) × Unit) : evBody CC { call := X, loop := L } 117 (shsInj [(.cell (.int .i64)), (.cell (.int .i64))] x) = f117 X L x := by kernel_rfl

/-- (*hayrick/array.Array).Sectors -/
def f118 (X : Task → M Value) (L : LoopI) (x : (Option Addr) × Unit) : M Value :=
 M.eqPtr x.1 none fun (q0_ : Bool) =>
 M.ite q0_
 (M.pure (.int .i64 0))
 (M.deref x.1 fun a1_ =>
 M.load (.cell (.int .i64)) 1 (a1_.add 0) fun (x2_ : Int) =>
 M.pure (.int .i64 x2_))

theorem e118 (X : Task → M Value) (L : LoopI) (x : (Option Addr) × Unit) : evBody CC { call := X, loop := L } 118 (shsInj [(.cell .ptr)] x) = f118 X L x := by kernel_rfl

/-- hayrick/hayrickref04.May -/
def f119 (X : Task → M Value) (L : LoopI) (x : (Int) × (Int) × Unit) : M Value :=
 M.join (fun (j0_ : (Bool) × Unit) =>
 M.pure (.bool j0_.1)) fun go1_ =>
 M.ite (decide (x.1 > 0))
 (M.ite (decide (x.2.1 > x.1))
 (go1_ ((decide (x.2.1 < 256)), ()))
 (go1_ (false, ())))
 (go1_ (false, ()))

theorem e119 (X : Task → M Value) (L : LoopI) (x : (Int) × (Int) × Unit) : evBody CC { call := X, loop := L } 119 (shsInj [(.cell (.int .i64)), (.cell (.int .i64))] x) = f119 X L x := by kernel_rfl

/-- (*hayrick/stripe.Stripes).right -/
def f120c0 (X : Task → M Value) (L : LoopI) (x : (Option Addr) × (Int) × (Int) × (Int) × (Bool) × Unit) : M (Value) :=
 M.join (fun (j5_ : (Bool) × Unit) =>
 M.ite j5_.1
 (M.pure (.int .i64 6))
 (M.join (fun (j7_ : (Bool) × Unit) =>
 M.ite j7_.1
 (M.pure (.int .i64 1))
 (M.pure (.int .i64 0))) fun go8_ =>
 M.ite (x.2.2.2.1 == 0)
 (go8_ (true, ()))
 (go8_ ((!x.2.2.2.2.1), ())))) fun go6_ =>
 M.ite (decide (x.2.2.1 < 0))
 (go6_ (true, ()))
 (M.deref x.1 fun a12_ =>
 M.load (.cell (.int .i64)) 1 ((a12_.add 1).add 2) fun (x13_ : Int) =>
 M.ite (decide (x.2.2.1 ≥ x13_))
 (go6_ (true, ()))
 (M.ite (decide (x.2.1 < 0))
 (go6_ (true, ()))
 (M.deref x.1 fun a16_ =>
 M.load (.cell (.int .i64)) 1 ((a16_.add 1).add 1) fun (x17_ : Int) =>
 go6_ ((decide (x.2.1 ≥ x17_)), ()))))
def f120c1 (X : Task → M Value) (L : LoopI) (x : (Option Addr) × (Int) × (Int) × (Int) × (Bool) × Unit) : M (Value) :=
 M.join (fun (j0_ : (Bool) × Unit) =>
 M.ite j0_.1
 (M.pure (.int .i64 2))
 (M.deref x.1 fun a2_ =>
 M.load (.cell .ptr) 1 (a2_.add 0) fun (x3_ : Option Addr) =>
 M.callS (.one (.cell .bool)) (X (.call 135 [(.pointer x3_)])) fun (r4_ : Bool) =>
 M.ite r4_
 (M.pure (.int .i64 8))
 (f120c0 X L x))) fun go1_ =>
 M.eqPtr x.1 none fun (q19_ : Bool) =>
 M.ite q19_
 (go1_ (true, ()))
 (M.deref x.1 fun a20_ =>
 M.load (.cell .ptr) 1 (a20_.add 0) fun (x21_ : Option Addr) =>
 M.eqPtr x21_ none fun (q22_ : Bool) =>
 go1_ (q22_, ()))
def f120 (X : Task → M Value) (L : LoopI) (x : (Option Addr) × (Int) × (Int) × (Int) × (Bool) × Unit) : M Value :=
 f120c1 X L x

theorem e120 (X : Task → M Value) (L : LoopI) (x : (Option Addr) × (Int) × (Int) × (Int) × (Bool) × Unit) : evBody CC { call := X, loop := L } 120 (shsInj [(.cell .ptr), (.cell (.int .i64)), (.cell (.int .i64)), (.cell (.int .u64)), (.cell .bool)] x) = f120 X L x := by kernel_rfl

/-- (*hayrick/array.Array).Ons -/
def f121c0 (X : Task → M Value) (L : LoopI) (x : (Option Addr) × Unit) (r0_ : Int) : M (Value) :=
 M.bind (L (σ := (Int) × (Int) × Unit) (ρ := ((Int) × Unit) ⊕ (Unit)) (fun s1_ =>
 M.ite (decide (s1_.2.1 < r0_))
 (M.join (fun (j3_ : (Int) × Unit) =>
 M.pure (.inl (j3_.1, (IntKind.i64.wrap (s1_.2.1 + 1)), ()))) fun go4_ =>
 M.callS (.one (.cell .bool)) (X (.call 124 [(.pointer x.1), (.int .i64 s1_.2.1)])) fun (r6_ : Bool) =>
 M.ite r6_
 (go4_ ((IntKind.i64.wrap (s1_.1 + 1)), ()))
 (go4_ (s1_.1, ())))
 (M.pure (.inr (.inl (s1_.1, ()))))) (0, 0, ())) <| M.sum (fun (j8_ : (Int) × Unit) =>
 M.pure (.int .i64 j8_.1)) (fun _ => M.stuck)
def f121 (X : Task → M Value) (L : LoopI) (x : (Option Addr) × Unit) : M Value :=
 M.callS (.one (.cell (.int .i64))) (X (.call 116 [(.pointer x.1)])) fun (r0_ : Int) =>
 f121c0 X L x r0_

theorem e121 (X : Task → M Value) (L : LoopI) (x : (Option Addr) × Unit) : evBody CC { call := X, loop := L } 121 (shsInj [(.cell .ptr)] x) = f121 X L x := by kernel_rfl

/-- hayrick/code.Encode -/
def f122c0 (X : Task → M Value) (L : LoopI) (x : (Int) × (Int) × ((Option Addr × Nat × Nat)) × Unit) (s2_ : ((Option Addr × Nat × Nat)) × (Int) × Unit) : M ((((Option Addr × Nat × Nat)) × (Int) × Unit) ⊕ ((((Option Addr × Nat × Nat)) × Unit) ⊕ (Unit))) :=
 M.callS (.one (.cell .slice)) (X (.call 138 [(.int .i64 x.1), (.int .i64 s2_.2.1)])) fun (r4_ : (Option Addr × Nat × Nat)) =>
 M.callS (.one (.cell .slice)) (X (.call 137 [(.slice r4_.1 r4_.2.1 r4_.2.2), (.slice x.2.2.1.1 x.2.2.1.2.1 x.2.2.1.2.2)])) fun (r5_ : (Option Addr × Nat × Nat)) =>
 M.new (.cells (Row.ofList [(.slice r5_.1 r5_.2.1 r5_.2.2)]) 49 false (0, 0) false) fun b6_ =>
 M.append 49 1 24 s2_.1.1 s2_.1.2.1 s2_.1.2.2 (.slice (some (Addr.mk b6_ 0 none)) 1 1) fun a7_ n8_ c9_ =>
 M.pure (.inl ((a7_, n8_, c9_), (IntKind.i64.wrap (s2_.2.1 + 1)), ()))
def f122c1 (X : Task → M Value) (L : LoopI) (x : (Int) × (Int) × ((Option Addr × Nat × Nat)) × Unit) : M (Value) :=
 M.join (fun (j0_ : (Bool) × Unit) =>
 M.ite j0_.1
 (M.pure (.tuple ⟨[(.slice none 0 0), (.int .i64 1)]⟩))
 (M.bind (L (σ := ((Option Addr × Nat × Nat)) × (Int) × Unit) (ρ := (((Option Addr × Nat × Nat)) × Unit) ⊕ (Unit)) (fun s2_ =>
 M.ite (decide (s2_.2.1 < x.2.1))
 (f122c0 X L x s2_)
 (M.pure (.inr (.inl (s2_.1, ()))))) ((none, 0, 0), 0, ())) <| M.sum (fun (j11_ : ((Option Addr × Nat × Nat)) × Unit) =>
 M.pure (.tuple ⟨[(.slice j11_.1.1 j11_.1.2.1 j11_.1.2.2), (.int .i64 0)]⟩)) (fun _ => M.stuck))) fun go1_ =>
 M.callS (.one (.cell .bool)) (X (.call 117 [(.int .i64 x.1), (.int .i64 x.2.1)])) fun (r12_ : Bool) =>
 M.ite (!r12_)
 (go1_ (true, ()))
 (M.ite (!(((x.2.2.1.2.1 : Nat) : Int) == x.1))
 (go1_ (true, ()))
 (M.callS (.one (.cell .bool)) (X (.call 136 [(.slice x.2.2.1.1 x.2.2.1.2.1 x.2.2.1.2.2)])) fun (r16_ : Bool) =>
 go1_ ((!r16_), ())))
def f122 (X : Task → M Value) (L : LoopI) (x : (Int) × (Int) × ((Option Addr × Nat × Nat)) × Unit) : M Value :=
 f122c1 X L x

theorem e122 (X : Task → M Value) (L : LoopI) (x : (Int) × (Int) × ((Option Addr × Nat × Nat)) × Unit) : evBody CC { call := X, loop := L } 122 (shsInj [(.cell (.int .i64)), (.cell (.int .i64)), (.cell .slice)] x) = f122 X L x := by kernel_rfl

/-- hayrick/stripe.parts -/
def f123c0 (X : Task → M Value) (L : LoopI) (x : ((Option Addr × Nat × Nat)) × Unit) (s0_ : ((Option Addr × Nat × Nat)) × (Int) × Unit) (v3_ : Int) (v4_ : Int) : M ((((Option Addr × Nat × Nat)) × (Int) × Unit) ⊕ ((((Option Addr × Nat × Nat)) × Unit) ⊕ (Unit))) :=
 M.guard (decide (0 ≤ v4_) && decide (v4_ ≤ ((x.1.2.2 : Nat) : Int)))
 (let v5_ : Nat := (Int.toNat v4_)
 M.guard (decide (0 ≤ v3_) && decide (v3_ ≤ ((v5_ : Nat) : Int)))
 (let v6_ : Nat := (Int.toNat v3_)
 M.guard (decide (0 ≤ s0_.2.1) && decide (s0_.2.1 ≤ ((v6_ : Nat) : Int)))
 (let v7_ : Nat := (Int.toNat s0_.2.1)
 M.new (.cells (Row.ofList [(.slice (x.1.1.map (·.add (v7_ * 1))) (v6_ - v7_) (v5_ - v7_))]) 49 false (0, 0) false) fun b8_ =>
 M.append 49 1 24 s0_.1.1 s0_.1.2.1 s0_.1.2.2 (.slice (some (Addr.mk b8_ 0 none)) 1 1) fun a9_ n10_ c11_ =>
 M.pure (.inl ((a9_, n10_, c11_), (IntKind.i64.wrap (s0_.2.1 + 448)), ())))))
def f123 (X : Task → M Value) (L : LoopI) (x : ((Option Addr × Nat × Nat)) × Unit) : M Value :=
 M.bind (L (σ := ((Option Addr × Nat × Nat)) × (Int) × Unit) (ρ := (((Option Addr × Nat × Nat)) × Unit) ⊕ (Unit)) (fun s0_ =>
 M.ite (decide (s0_.2.1 < ((x.1.2.1 : Nat) : Int)))
 (f123c0 X L x s0_ (IntKind.i64.wrap (s0_.2.1 + 448)) (IntKind.i64.wrap (s0_.2.1 + 448)))
 (M.pure (.inr (.inl (s0_.1, ()))))) ((none, 0, 0), 0, ())) <| M.sum (fun (j13_ : ((Option Addr × Nat × Nat)) × Unit) =>
 M.pure (.slice j13_.1.1 j13_.1.2.1 j13_.1.2.2)) (fun _ => M.stuck)

theorem e123 (X : Task → M Value) (L : LoopI) (x : ((Option Addr × Nat × Nat)) × Unit) : evBody CC { call := X, loop := L } 123 (shsInj [(.cell .slice)] x) = f123 X L x := by kernel_rfl

/-- (*hayrick/array.Array).On -/
def f124c0 (X : Task → M Value) (L : LoopI) (x : (Option Addr) × (Int) × Unit) (go1_ : ((Bool) × Unit) → M (Value)) : M (Value) :=
 M.deref x.1 fun a5_ =>
 M.load (.cell .slice) 1 (a5_.add 1) fun (x6_ : (Option Addr × Nat × Nat)) =>
 M.ite (decide (x.2.1 < ((x6_.2.1 : Nat) : Int)))
 (M.deref x.1 fun a9_ =>
 M.load (.cell .slice) 1 (a9_.add 1) fun (x10_ : (Option Addr × Nat × Nat)) =>
 M.guard (decide (0 ≤ x.2.1) && decide (x.2.1 < ((x10_.2.1 : Nat) : Int)))
 (M.deref x10_.1 fun a11_ =>
 M.load (.cell .slice) 1 (a11_.add ((Int.toNat x.2.1) * 1)) fun (x12_ : (Option Addr × Nat × Nat)) =>
 go1_ ((!x12_.1.isNone), ())))
 (go1_ (false, ()))
def f124 (X : Task → M Value) (L : LoopI) (x : (Option Addr) × (Int) × Unit) : M Value :=
 M.join (fun (j0_ : (Bool) × Unit) =>
 M.pure (.bool j0_.1)) fun go1_ =>
 M.eqPtr x.1 none fun (q2_ : Bool) =>
 M.ite (!q2_)
 (M.ite (decide (x.2.1 ≥ 0))
 (f124c0 X L x go1_)
 (go1_ (false, ())))
 (go1_ (false, ()))

theorem e124 (X : Task → M Value) (L : LoopI) (x : (Option Addr) × (Int) × Unit) : evBody CC { call := X, loop := L } 124 (shsInj [(.cell .ptr), (.cell (.int .i64))] x) = f124 X L x := by kernel_rfl

/-- (*hayrick/stripe.Stripes).put -/
def f125c0 (X : Task → M Value) (L : LoopI) (x : (Option Addr) × (Int) × (Int) × (Int) × ((Option Addr × Nat × Nat)) × Unit) (s3_ : (Int) × Unit) (x6_ : (Option Addr × Nat × Nat)) (a7_ : Addr) : M (((Int) × Unit) ⊕ ((Unit) ⊕ (((Int) × Unit) ⊕ (Unit)))) :=
 M.load (.cell .ptr) 1 (a7_.add 0) fun (x8_ : Option Addr) =>
 M.deref x.1 fun a9_ =>
 M.load (.cell (.int .i64)) 1 (a9_.add 4) fun (x10_ : Int) =>
 M.callS (.one (.cell (.int .i64))) (X (.call 140 [(.pointer x8_), (.int .i64 x.2.1), (.int .i64 (IntKind.i64.wrap ((IntKind.i64.wrap (x10_ + (IntKind.i64.wrap (x.2.2.1 * 8)))) + s3_.1))), (.slice x6_.1 x6_.2.1 x6_.2.2)])) fun (r14_ : Int) =>
 M.ite (!(r14_ == 0))
 (M.pure (.inr (.inr (.inl (r14_, ())))))
 (M.pure (.inl ((IntKind.i64.wrap (s3_.1 + 1)), ())))
def f125c1 (X : Task → M Value) (L : LoopI) (x : (Option Addr) × (Int) × (Int) × (Int) × ((Option Addr × Nat × Nat)) × Unit) (r0_ : ((Option Addr × Nat × Nat)) × (Int) × Unit) (v2_ : Int) : M (Value) :=
 M.bind (L (σ := (Int) × Unit) (ρ := (Unit) ⊕ (((Int) × Unit) ⊕ (Unit))) (fun s3_ =>
 M.ite (decide (s3_.1 < v2_))
 (M.guard (decide (0 ≤ s3_.1) && decide (s3_.1 < ((r0_.1.2.1 : Nat) : Int)))
 (M.deref r0_.1.1 fun a5_ =>
 M.load (.cell .slice) 1 (a5_.add ((Int.toNat s3_.1) * 1)) fun (x6_ : (Option Addr × Nat × Nat)) =>
 M.deref x.1 fun a7_ =>
 f125c0 X L x s3_ x6_ a7_))
 (M.pure (.inr (.inl (()))))) (0, ())) <| M.sum (fun (j17_ : Unit) =>
 M.pure (.int .i64 0)) (M.sum (fun (j18_ : (Int) × Unit) =>
 M.pure (.int .i64 j18_.1)) (fun _ => M.stuck))
def f125 (X : Task → M Value) (L : LoopI) (x : (Option Addr) × (Int) × (Int) × (Int) × ((Option Addr × Nat × Nat)) × Unit) : M Value :=
 M.callS (.tuple [(.cell .slice), (.cell (.int .i64))]) (X (.call 139 [(.int .u64 x.2.2.2.1), (.slice x.2.2.2.2.1.1 x.2.2.2.2.1.2.1 x.2.2.2.2.1.2.2)])) fun (r0_ : ((Option Addr × Nat × Nat)) × (Int) × Unit) =>
 M.ite (!(r0_.2.1 == 0))
 (M.pure (.int .i64 r0_.2.1))
 (f125c1 X L x r0_ ((r0_.1.2.1 : Nat) : Int))

theorem e125 (X : Task → M Value) (L : LoopI) (x : (Option Addr) × (Int) × (Int) × (Int) × ((Option Addr × Nat × Nat)) × Unit) : evBody CC { call := X, loop := L } 125 (shsInj [(.cell .ptr), (.cell (.int .i64)), (.cell (.int .i64)), (.cell (.int .u64)), (.cell .slice)] x) = f125 X L x := by kernel_rfl

/-- math/bits.Mul32 -/
def f126 (X : Task → M Value) (L : LoopI) (x : (Int) × (Int) × Unit) : M Value :=
 let v2_ : Int := IntKind.u64.wrap ((IntKind.u64.wrap x.1) * (IntKind.u64.wrap x.2.1))
 M.guard (decide (0 ≤ 32))
 (M.pure (.tuple ⟨[(.int .u32 (IntKind.u32.wrap (((v2_ : Int)).fdiv (2 ^ (min (Int.toNat 32) IntKind.u64.bits))))), (.int .u32 (IntKind.u32.wrap v2_))]⟩))

theorem e126 (X : Task → M Value) (L : LoopI) (x : (Int) × (Int) × Unit) : evBody CC { call := X, loop := L } 126 (shsInj [(.cell (.int .u32)), (.cell (.int .u32))] x) = f126 X L x := by kernel_rfl

/-- math/bits.Mul64 -/
def f127c0 (X : Task → M Value) (L : LoopI) (x : (Int) × (Int) × Unit) (v0_ : Int) (v1_ : Int) (v3_ : Int) (v4_ : Int) (v5_ : Int) : M (Value) :=
 M.guard (decide (0 ≤ 32))
 (let v7_ : Int := IntKind.u64.wrap (v5_ + (((v4_ : Int)).fdiv (2 ^ (min (Int.toNat 32) IntKind.u64.bits))))
 M.guard (decide (0 ≤ 32))
 (M.guard (decide (0 ≤ 32))
 (M.pure (.tuple ⟨[(.int .u64 (IntKind.u64.wrap ((IntKind.u64.wrap ((IntKind.u64.wrap (v1_ * v3_)) + (((v7_ : Int)).fdiv (2 ^ (min (Int.toNat 32) IntKind.u64.bits))))) + ((((IntKind.u64.wrap ((bitsV .and .u64 v7_ 4294967295) + (IntKind.u64.wrap (v0_ * v3_)))) : Int)).fdiv (2 ^ (min (Int.toNat 32) IntKind.u64.bits)))))), (.int .u64 (IntKind.u64.wrap (x.1 * x.2.1)))]⟩))))
def f127 (X : Task → M Value) (L : LoopI) (x : (Int) × (Int) × Unit) : M Value :=
 let v0_ : Int := bitsV .and .u64 x.1 4294967295
 M.guard (decide (0 ≤ 32))
 (let v1_ : Int := ((x.1 : Int)).fdiv (2 ^ (min (Int.toNat 32) IntKind.u64.bits))
 let v2_ : Int := bitsV .and .u64 x.2.1 4294967295
 M.guard (decide (0 ≤ 32))
 (f127c0 X L x v0_ v1_ (((x.2.1 : Int)).fdiv (2 ^ (min (Int.toNat 32) IntKind.u64.bits))) (IntKind.u64.wrap (v0_ * v2_)) (IntKind.u64.wrap (v1_ * v2_))))

theorem e127 (X : Task → M Value) (L : LoopI) (x : (Int) × (Int) × Unit) : evBody CC { call := X, loop := L } 127 (shsInj [(.cell (.int .u64)), (.cell (.int .u64))] x) = f127 X L x := by kernel_rfl

/-- (*hayrick/stripe.Stripes).each -/
def f128c0 (X : Task → M Value) (L : LoopI) (x : (Option Addr) × (Int) × (Value) × Unit) (x1_ : Int) : M (Value) :=
 M.bind (L (σ := (Int) × Unit) (ρ := (Unit) ⊕ (Unit)) (fun s2_ =>
 M.ite (decide (s2_.1 < x1_))
 (M.join (fun (j4_ : Unit) =>
 M.pure (.inl ((IntKind.i64.wrap (s2_.1 + 1)), ()))) fun go5_ =>
 M.callS (.one (.cell .slice)) (X (.call 141 [(.pointer x.1), (.int .i64 s2_.1), (.int .i64 x.2.1)])) fun (r7_ : (Option Addr × Nat × Nat)) =>
 M.ite (!r7_.1.isNone)
 (callV CC ⟨X, L⟩ x.2.2.1 [(.int .i64 s2_.1), (.slice r7_.1 r7_.2.1 r7_.2.2)] fun w10_ => M.need (RSh.prj (.tuple []) w10_) fun (r9_ : Unit) =>
 go5_ (()))
 (go5_ (())))
 (M.pure (.inr (.inl (()))))) (0, ())) <| M.sum (fun (j11_ : Unit) =>
 M.pure (.tuple ⟨[]⟩)) (fun _ => M.stuck)
def f128 (X : Task → M Value) (L : LoopI) (x : (Option Addr) × (Int) × (Value) × Unit) : M Value :=
 M.deref x.1 fun a0_ =>
 M.load (.cell (.int .i64)) 1 ((a0_.add 1).add 1) fun (x1_ : Int) =>
 f128c0 X L x x1_

theorem e128 (X : Task → M Value) (L : LoopI) (x : (Option Addr) × (Int) × (Value) × Unit) : evBody CC { call := X, loop := L } 128 (shsInj [(.cell .ptr), (.cell (.int .i64)), (.cell .val)] x) = f128 X L x := by kernel_rfl

/-- (*hayrick/stripe.Stripes).Read$1 -/
def f129c0 (X : Task → M Value) (L : LoopI) (x : (Int) × ((Option Addr × Nat × Nat)) × (Option Addr) × (Option Addr) × (Option Addr) × (Option Addr) × Unit) (x4_ : (Option Addr × Nat × Nat)) (b5_ : Nat) (x7_ : (Option Addr × Nat × Nat)) (b8_ : Nat) : M (Value) :=
 M.append 3 1 8 x4_.1 x4_.2.1 x4_.2.2 (.slice (some (Addr.mk b5_ 0 none)) 1 1) fun a9_ n10_ c11_ =>
 M.deref x.2.2.2.2.2.1 fun a12_ =>
 M.load (.cell .slice) 1 a12_ fun (x13_ : (Option Addr × Nat × Nat)) => cond (veqv (.slice x13_.1 x13_.2.1 x13_.2.2) (.slice x7_.1 x7_.2.1 x7_.2.2)) (M.append 49 1 24 x7_.1 x7_.2.1 x7_.2.2 (.slice (some (Addr.mk b8_ 0 none)) 1 1) fun a14_ n15_ c16_ =>
 M.deref x.2.2.2.1 fun a17_ =>
 M.store a17_ [(.slice a9_ n10_ c11_)]
 (M.deref x.2.2.2.2.2.1 fun a18_ =>
 M.store a18_ [(.slice a14_ n15_ c16_)]
 (M.pure (.tuple ⟨[]⟩)))) M.stuck
def f129c1 (X : Task → M Value) (L : LoopI) (x : (Int) × ((Option Addr × Nat × Nat)) × (Option Addr) × (Option Addr) × (Option Addr) × (Option Addr) × Unit) (r0_ : (Int) × ((Option Addr × Nat × Nat)) × (Bool) × Unit) : M (Value) :=
 M.join (fun (j1_ : (Bool) × Unit) =>
 M.ite j1_.1
 (M.deref x.2.2.2.1 fun a3_ =>
 M.load (.cell .slice) 1 a3_ fun (x4_ : (Option Addr × Nat × Nat)) =>
 M.new (.cells (Row.ofList [(.int .i64 x.1)]) 3 false (0, 0) false) fun b5_ =>
 M.deref x.2.2.2.2.2.1 fun a6_ =>
 M.load (.cell .slice) 1 a6_ fun (x7_ : (Option Addr × Nat × Nat)) =>
 M.new (.cells (Row.ofList [(.slice r0_.2.1.1 r0_.2.1.2.1 r0_.2.1.2.2)]) 49 false (0, 0) false) fun b8_ =>
 f129c0 X L x x4_ b5_ x7_ b8_)
 (M.pure (.tuple ⟨[]⟩))) fun go2_ =>
 M.ite r0_.2.2.1
 (M.deref x.2.2.1 fun a19_ =>
 M.load (.cell (.int .u64)) 1 a19_ fun (x20_ : Int) =>
 M.ite (r0_.1 == x20_)
 (M.deref x.2.2.2.1 fun a22_ =>
 M.load (.cell .slice) 1 a22_ fun (x23_ : (Option Addr × Nat × Nat)) =>
 M.deref x.2.2.2.2.1 fun a25_ =>
 M.load (.cell .ptr) 1 a25_ fun (x26_ : Option Addr) =>
 M.deref x26_ fun a27_ =>
 M.load (.cell (.int .i64)) 1 ((a27_.add 1).add 0) fun (x28_ : Int) =>
 go2_ ((decide (((x23_.2.1 : Nat) : Int) < x28_)), ()))
 (go2_ (false, ())))
 (go2_ (false, ()))
def f129 (X : Task → M Value) (L : LoopI) (x : (Int) × ((Option Addr × Nat × Nat)) × (Option Addr) × (Option Addr) × (Option Addr) × (Option Addr) × Unit) : M Value :=
 M.callS (.tuple [(.cell (.int .u64)), (.cell .slice), (.cell .bool)]) (X (.call 130 [(.slice x.2.1.1 x.2.1.2.1 x.2.1.2.2)])) fun (r0_ : (Int) × ((Option Addr × Nat × Nat)) × (Bool) × Unit) =>
 f129c1 X L x r0_

theorem e129 (X : Task → M Value) (L : LoopI) (x : (Int) × ((Option Addr × Nat × Nat)) × (Option Addr) × (Option Addr) × (Option Addr) × (Option Addr) × Unit) : evBody CC { call := X, loop := L } 129 (shsInj [(.cell (.int .i64)), (.cell .slice), (.cell .ptr), (.cell .ptr), (.cell .ptr), (.cell .ptr)] x) = f129 X L x := by kernel_rfl

/-- hayrick/chunk.Take -/
def f130c0 (X : Task → M Value) (L : LoopI) (x : ((Option Addr × Nat × Nat)) × Unit) (b5_ : Nat) (b6_ : Nat) : M (Value) :=
 M.callS (.one (.cell .bool)) (X (.call 144 [(.slice x.1.1 x.1.2.1 x.1.2.2), (.func (.func 143) ⟨[]⟩ ⟨[(.pointer (some (Addr.mk b6_ 0 none))), (.pointer (some (Addr.mk b5_ 0 none)))]⟩)])) fun (r7_ : Bool) =>
 M.ite r7_
 (M.pure (.tuple ⟨[(.int .u64 0), (.slice none 0 0), (.bool false)]⟩))
 (M.load (.cell (.int .u64)) 1 (Addr.mk b5_ 0 none) fun (x8_ : Int) =>
 M.load (.cell .slice) 1 (Addr.mk b6_ 0 none) fun (x9_ : (Option Addr × Nat × Nat)) =>
 M.load (.cell .slice) 1 (Addr.mk b6_ 0 none) fun (x10_ : (Option Addr × Nat × Nat)) => cond (veqv (.slice x10_.1 x10_.2.1 x10_.2.2) (.slice x9_.1 x9_.2.1 x9_.2.2)) (M.pure (.tuple ⟨[(.int .u64 x8_), (.slice x9_.1 x9_.2.1 x9_.2.2), (.bool true)]⟩)) M.stuck)
def f130c1 (X : Task → M Value) (L : LoopI) (x : ((Option Addr × Nat × Nat)) × Unit) (a2_ : Addr) : M (Value) :=
 M.load (.cell .slice) 1 (a2_.add ((Int.toNat 0) * 1)) fun (x3_ : (Option Addr × Nat × Nat)) =>
 M.callS (.tuple [(.cell (.int .u64)), (.cell .slice), (.cell (.int .i64))]) (X (.call 142 [(.slice x3_.1 x3_.2.1 x3_.2.2)])) fun (r4_ : (Int) × ((Option Addr × Nat × Nat)) × (Int) × Unit) =>
 M.new (.cells (Row.ofList [(.int .u64 0)]) 75 false (0, 0) false) fun b5_ =>
 M.store (Addr.mk b5_ 0 none) [(.int .u64 r4_.1)]
 (M.new (.cells (Row.ofList [(.slice none 0 0)]) 49 false (0, 0) false) fun b6_ =>
 f130c0 X L x b5_ b6_)
def f130 (X : Task → M Value) (L : LoopI) (x : ((Option Addr × Nat × Nat)) × Unit) : M Value :=
 M.join (fun (j0_ : (Bool) × Unit) =>
 M.ite j0_.1
 (M.pure (.tuple ⟨[(.int .u64 0), (.slice none 0 0), (.bool false)]⟩))
 (M.guard (decide (0 ≤ 0) && decide (0 < ((x.1.2.1 : Nat) : Int)))
 (M.deref x.1.1 fun a2_ =>
 f130c1 X L x a2_))) fun go1_ =>
 M.ite (((x.1.2.1 : Nat) : Int) == 0)
 (go1_ (true, ()))
 (go1_ ((decide (((x.1.2.1 : Nat) : Int) > 64)), ()))

theorem e130 (X : Task → M Value) (L : LoopI) (x : ((Option Addr × Nat × Nat)) × Unit) : evBody CC { call := X, loop := L } 130 (shsInj [(.cell .slice)] x) = f130 X L x := by kernel_rfl

/-- hayrick/code.Decode -/
def f131c0 (X : Task → M Value) (L : LoopI) (x : (Int) × (Int) × ((Option Addr × Nat × Nat)) × ((Option Addr × Nat × Nat)) × Unit) (b2_ : Nat) (s4_ : (Int) × Unit) (x7_ : Int) : M (((Int) × Unit) ⊕ ((Unit) ⊕ ((((Option Addr × Nat × Nat)) × (Int) × Unit) ⊕ (Unit)))) :=
 M.join (fun (j8_ : (Bool) × Unit) =>
 M.ite j8_.1
 (M.pure (.inr (.inr (.inl ((none, 0, 0), 1, ())))))
 (M.guard (decide (0 ≤ x7_) && decide (x7_ < ((255 : Nat) : Int)))
 (M.store ((Addr.mk b2_ 0 none).add ((Int.toNat x7_) * 1)) [(.bool true)]
 (M.pure (.inl ((IntKind.i64.wrap (s4_.1 + 1)), ())))))) fun go9_ =>
 M.ite (decide (x7_ < 0))
 (go9_ (true, ()))
 (M.ite (decide (x7_ ≥ x.2.1))
 (go9_ (true, ()))
 (M.guard (decide (0 ≤ x7_) && decide (x7_ < ((255 : Nat) : Int)))
 (M.load (.cell .bool) 1 ((Addr.mk b2_ 0 none).add ((Int.toNat x7_) * 1)) fun (x13_ : Bool) =>
 go9_ (x13_, ()))))
def f131c1 (X : Task → M Value) (L : LoopI) (x : (Int) × (Int) × ((Option Addr × Nat × Nat)) × ((Option Addr × Nat × Nat)) × Unit) (v17_ : Nat) (s19_ : ((Option Addr × Nat × Nat)) × (Int) × Unit) : M ((((Option Addr × Nat × Nat)) × (Int) × Unit) ⊕ ((((Option Addr × Nat × Nat)) × Unit) ⊕ (Unit))) :=
 M.guard (decide (0 ≤ s19_.2.1) && decide (s19_.2.1 < (((v17_ - 0) : Nat) : Int)))
 (M.deref (x.2.2.1.1.map (·.add (0 * 1))) fun a21_ =>
 M.load (.cell (.int .i64)) 1 (a21_.add ((Int.toNat s19_.2.1) * 1)) fun (x22_ : Int) =>
 M.callS (.one (.cell .slice)) (X (.call 138 [(.int .i64 x.1), (.int .i64 x22_)])) fun (r23_ : (Option Addr × Nat × Nat)) =>
 M.new (.cells (Row.ofList [(.slice r23_.1 r23_.2.1 r23_.2.2)]) 49 false (0, 0) false) fun b24_ =>
 M.append 49 1 24 s19_.1.1 s19_.1.2.1 s19_.1.2.2 (.slice (some (Addr.mk b24_ 0 none)) 1 1) fun a25_ n26_ c27_ =>
 M.pure (.inl ((a25_, n26_, c27_), (IntKind.i64.wrap (s19_.2.1 + 1)), ())))
def f131c2 (X : Task → M Value) (L : LoopI) (x : (Int) × (Int) × ((Option Addr × Nat × Nat)) × ((Option Addr × Nat × Nat)) × Unit) (b32_ : Nat) (s34_ : (Int) × Unit) (x40_ : (Option Addr × Nat × Nat)) (x42_ : (Option Addr × Nat × Nat)) (v43_ : Nat) : M (((Int) × Unit) ⊕ ((Unit) ⊕ (Unit))) :=
 M.callS (.one (.cell .slice)) (X (.call 137 [(.slice x42_.1 x42_.2.1 x42_.2.2), (.slice (x.2.2.2.1.1.map (·.add (0 * 1))) (v43_ - 0) (x.2.2.2.1.2.2 - 0))])) fun (r44_ : (Option Addr × Nat × Nat)) =>
 M.load (.cell .slice) 1 ((Addr.mk b32_ 0 none).add ((Int.toNat s34_.1) * 1)) fun (x45_ : (Option Addr × Nat × Nat)) => cond (veqv (.slice x45_.1 x45_.2.1 x45_.2.2) (.slice x40_.1 x40_.2.1 x40_.2.2)) (M.copy 1 x40_.1 x40_.2.1 (.slice r44_.1 r44_.2.1 r44_.2.2) fun m46_ =>
 M.pure (.inl ((IntKind.i64.wrap (s34_.1 + 1)), ()))) M.stuck
def f131c3 (X : Task → M Value) (L : LoopI) (x : (Int) × (Int) × ((Option Addr × Nat × Nat)) × ((Option Addr × Nat × Nat)) × Unit) (r30_ : ((Option Addr × Nat × Nat)) × (Int) × Unit) (b32_ : Nat) (s34_ : (Int) × Unit) : M (((Int) × Unit) ⊕ ((Unit) ⊕ (Unit))) :=
 M.guard (decide (0 ≤ s34_.1) && decide (s34_.1 < (((Int.toNat x.1) : Nat) : Int)))
 (M.load (.cell .slice) 1 ((Addr.mk b32_ 0 none).add ((Int.toNat s34_.1) * 1)) fun (x40_ : (Option Addr × Nat × Nat)) =>
 M.guard (decide (0 ≤ s34_.1) && decide (s34_.1 < ((r30_.1.2.1 : Nat) : Int)))
 (M.deref r30_.1.1 fun a41_ =>
 M.load (.cell .slice) 1 (a41_.add ((Int.toNat s34_.1) * 1)) fun (x42_ : (Option Addr × Nat × Nat)) =>
 M.guard (decide (0 ≤ x.1) && decide (x.1 ≤ ((x.2.2.2.1.2.2 : Nat) : Int)))
 (f131c2 X L x b32_ s34_ x40_ x42_ (Int.toNat x.1))))
def f131c4 (X : Task → M Value) (L : LoopI) (x : (Int) × (Int) × ((Option Addr × Nat × Nat)) × ((Option Addr × Nat × Nat)) × Unit) (r30_ : ((Option Addr × Nat × Nat)) × (Int) × Unit) (b32_ : Nat) (s34_ : (Int) × Unit) (a36_ : Addr) : M (((Int) × Unit) ⊕ ((Unit) ⊕ (Unit))) :=
 M.load (.cell .slice) 1 (a36_.add ((Int.toNat 0) * 1)) fun (x37_ : (Option Addr × Nat × Nat)) =>
 let v38_ : Int := ((x37_.2.1 : Nat) : Int)
 M.guard (decide (0 ≤ v38_) && decide (v38_ ≤ v38_) && decide ((1 : Int) * v38_ ≤ 2 ^ 48))
 (M.new (.cells (Row.rep [(.int .u8 0)] (Int.toNat v38_)) 5 false (0, 0) false) fun b39_ =>
 M.guard (decide (0 ≤ s34_.1) && decide (s34_.1 < (((Int.toNat x.1) : Nat) : Int)))
 (M.store ((Addr.mk b32_ 0 none).add ((Int.toNat s34_.1) * 1)) [(.slice (some (Addr.mk b39_ 0 none)) (Int.toNat v38_) (Int.toNat v38_))]
 (f131c3 X L x r30_ b32_ s34_)))
def f131c5 (X : Task → M Value) (L : LoopI) (x : (Int) × (Int) × ((Option Addr × Nat × Nat)) × ((Option Addr × Nat × Nat)) × Unit) (r30_ : ((Option Addr × Nat × Nat)) × (Int) × Unit) : M (Value) :=
 M.guard (decide (0 ≤ x.1) && decide (x.1 ≤ x.1) && decide ((24 : Int) * x.1 ≤ 2 ^ 48))
 (M.new (.cells (Row.rep [(.slice none 0 0)] (Int.toNat x.1)) 49 false (0, 0) false) fun b32_ =>
 M.bind (L (σ := (Int) × Unit) (ρ := (Unit) ⊕ (Unit)) (fun s34_ =>
 M.ite (decide (s34_.1 < (((Int.toNat x.1) : Nat) : Int)))
 (M.guard (decide (0 ≤ 0) && decide (0 < ((x.2.2.2.1.2.1 : Nat) : Int)))
 (M.deref x.2.2.2.1.1 fun a36_ =>
 f131c4 X L x r30_ b32_ s34_ a36_))
 (M.pure (.inr (.inl (()))))) (0, ())) <| M.sum (fun (j48_ : Unit) =>
 M.pure (.tuple ⟨[(.slice (some (Addr.mk b32_ 0 none)) (Int.toNat x.1) (Int.toNat x.1)), (.int .i64 0)]⟩)) (fun _ => M.stuck))
def f131c6 (X : Task → M Value) (L : LoopI) (x : (Int) × (Int) × ((Option Addr × Nat × Nat)) × ((Option Addr × Nat × Nat)) × Unit) (v17_ : Nat) (v18_ : Int) : M (Value) :=
 M.bind (L (σ := ((Option Addr × Nat × Nat)) × (Int) × Unit) (ρ := (((Option Addr × Nat × Nat)) × Unit) ⊕ (Unit)) (fun s19_ =>
 M.ite (decide (s19_.2.1 < v18_))
 (f131c1 X L x v17_ s19_)
 (M.pure (.inr (.inl (s19_.1, ()))))) ((none, 0, 0), 0, ())) <| M.sum (fun (j29_ : ((Option Addr × Nat × Nat)) × Unit) =>
 M.callS (.tuple [(.cell .slice), (.cell (.int .i64))]) (X (.call 145 [(.slice j29_.1.1 j29_.1.2.1 j29_.1.2.2)])) fun (r30_ : ((Option Addr × Nat × Nat)) × (Int) × Unit) =>
 M.ite (!(r30_.2.1 == 0))
 (M.pure (.tuple ⟨[(.slice none 0 0), (.int .i64 r30_.2.1)]⟩))
 (f131c5 X L x r30_)) (fun _ => M.stuck)
def f131c7 (X : Task → M Value) (L : LoopI) (x : (Int) × (Int) × ((Option Addr × Nat × Nat)) × ((Option Addr × Nat × Nat)) × Unit) (b2_ : Nat) (v3_ : Int) : M (Value) :=
 M.bind (L (σ := (Int) × Unit) (ρ := (Unit) ⊕ ((((Option Addr × Nat × Nat)) × (Int) × Unit) ⊕ (Unit))) (fun s4_ =>
 M.ite (decide (s4_.1 < v3_))
 (M.guard (decide (0 ≤ s4_.1) && decide (s4_.1 < ((x.2.2.1.2.1 : Nat) : Int)))
 (M.deref x.2.2.1.1 fun a6_ =>
 M.load (.cell (.int .i64)) 1 (a6_.add ((Int.toNat s4_.1) * 1)) fun (x7_ : Int) =>
 f131c0 X L x b2_ s4_ x7_))
 (M.pure (.inr (.inl (()))))) (0, ())) <| M.sum (fun (j14_ : Unit) =>
 M.ite (decide (((x.2.2.1.2.1 : Nat) : Int) < x.1))
 (M.pure (.tuple ⟨[(.slice none 0 0), (.int .i64 4)]⟩))
 (M.guard (decide (0 ≤ x.1) && decide (x.1 ≤ ((x.2.2.1.2.2 : Nat) : Int)))
 (let v17_ : Nat := (Int.toNat x.1)
 f131c6 X L x v17_ (((v17_ - 0) : Nat) : Int)))) (M.sum (fun (j49_ : ((Option Addr × Nat × Nat)) × (Int) × Unit) =>
 M.pure (.tuple ⟨[(.slice j49_.1.1 j49_.1.2.1 j49_.1.2.2), (.int .i64 j49_.2.1)]⟩)) (fun _ => M.stuck))
def f131c8 (X : Task → M Value) (L : LoopI) (x : (Int) × (Int) × ((Option Addr × Nat × Nat)) × ((Option Addr × Nat × Nat)) × Unit) : M (Value) :=
 M.join (fun (j0_ : (Bool) × Unit) =>
 M.ite j0_.1
 (M.pure (.tuple ⟨[(.slice none 0 0), (.int .i64 1)]⟩))
 (M.new (.cells (Row.ofList (zc 242)) 242 false (0, 0) false) fun b2_ =>
 f131c7 X L x b2_ ((x.2.2.1.2.1 : Nat) : Int))) fun go1_ =>
 M.callS (.one (.cell .bool)) (X (.call 117 [(.int .i64 x.1), (.int .i64 x.2.1)])) fun (r50_ : Bool) =>
 M.ite (!r50_)
 (go1_ (true, ()))
 (M.ite (!(((x.2.2.1.2.1 : Nat) : Int) == ((x.2.2.2.1.2.1 : Nat) : Int)))
 (go1_ (true, ()))
 (M.callS (.one (.cell .bool)) (X (.call 136 [(.slice x.2.2.2.1.1 x.2.2.2.1.2.1 x.2.2.2.1.2.2)])) fun (r55_ : Bool) =>
 go1_ ((!r55_), ())))
def f131 (X : Task → M Value) (L : LoopI) (x : (Int) × (Int) × ((Option Addr × Nat × Nat)) × ((Option Addr × Nat × Nat)) × Unit) : M Value :=
 f131c8 X L x

theorem e131 (X : Task → M Value) (L : LoopI) (x : (Int) × (Int) × ((Option Addr × Nat × Nat)) × ((Option Addr × Nat × Nat)) × Unit) : evBody CC { call := X, loop := L } 131 (shsInj [(.cell (.int .i64)), (.cell (.int .i64)), (.cell .slice), (.cell .slice)] x) = f131 X L x := by kernel_rfl

/-- slices.pdqsortOrdered[int] -/
def f132c0 (X : Task → M Value) (L : LoopI) (x : ((Option Addr × Nat × Nat)) × (Int) × (Int) × (Int) × Unit) (s0_ : (Int) × (Int) × (Int) × (Bool) × (Bool) × Unit) (go2_ : ((Int) × (Int) × (Int) × (Bool) × (Bool) × Unit) → M (((Int) × (Int) × (Int) × (Bool) × (Bool) × Unit) ⊕ ((Unit) ⊕ (Unit)))) (j8_ : (Int) × Unit) (r18_ : (Int) × (Bool) × Unit) (v19_ : Int) (v20_ : Int) (v21_ : Int) : M (((Int) × (Int) × (Int) × (Bool) × (Bool) × Unit) ⊕ ((Unit) ⊕ (Unit))) :=
 M.ite (decide (v19_ < v20_))
 (M.callS (.tuple []) (X (.call 132 [(.slice x.1.1 x.1.2.1 x.1.2.2), (.int .i64 s0_.1), (.int .i64 r18_.1), (.int .i64 j8_.1)])) fun (r24_ : Unit) =>
 go2_ ((IntKind.i64.wrap (r18_.1 + 1)), s0_.2.1, j8_.1, (decide (v19_ ≥ v21_)), r18_.2.1, ()))
 (M.callS (.tuple []) (X (.call 132 [(.slice x.1.1 x.1.2.1 x.1.2.2), (.int .i64 (IntKind.i64.wrap (r18_.1 + 1))), (.int .i64 s0_.2.1), (.int .i64 j8_.1)])) fun (r28_ : Unit) =>
 go2_ (s0_.1, r18_.1, j8_.1, (decide (v20_ ≥ v21_)), r18_.2.1, ()))
def f132c1 (X : Task → M Value) (L : LoopI) (x : ((Option Addr × Nat × Nat)) × (Int) × (Int) × (Int) × Unit) (s0_ : (Int) × (Int) × (Int) × (Bool) × (Bool) × Unit) (go2_ : ((Int) × (Int) × (Int) × (Bool) × (Bool) × Unit) → M (((Int) × (Int) × (Int) × (Bool) × (Bool) × Unit) ⊕ ((Unit) ⊕ (Unit)))) (v3_ : Int) (j8_ : (Int) × Unit) (j11_ : (Int) × (Int) × Unit) (j15_ : (Bool) × Unit) : M (((Int) × (Int) × (Int) × (Bool) × (Bool) × Unit) ⊕ ((Unit) ⊕ (Unit))) :=
 M.ite j15_.1
 (M.callS (.one (.cell (.int .i64))) (X (.call 153 [(.slice x.1.1 x.1.2.1 x.1.2.2), (.int .i64 s0_.1), (.int .i64 s0_.2.1), (.int .i64 j11_.1)])) fun (r17_ : Int) =>
 go2_ (r17_, s0_.2.1, j8_.1, s0_.2.2.2.1, s0_.2.2.2.2.1, ()))
 (M.callS (.tuple [(.cell (.int .i64)), (.cell .bool)]) (X (.call 154 [(.slice x.1.1 x.1.2.1 x.1.2.2), (.int .i64 s0_.1), (.int .i64 s0_.2.1), (.int .i64 j11_.1)])) fun (r18_ : (Int) × (Bool) × Unit) =>
 M.guard (!(decide (8 = 0)))
 (f132c0 X L x s0_ go2_ j8_ r18_ (IntKind.i64.wrap (r18_.1 - s0_.1)) (IntKind.i64.wrap (s0_.2.1 - r18_.1)) (IntKind.i64.wrap ((v3_ : Int).tdiv 8))))
def f132c2 (X : Task → M Value) (L : LoopI) (x : ((Option Addr × Nat × Nat)) × (Int) × (Int) × (Int) × Unit) (s0_ : (Int) × (Int) × (Int) × (Bool) × (Bool) × Unit) (j11_ : (Int) × (Int) × Unit) (go16_ : ((Bool) × Unit) → M (((Int) × (Int) × (Int) × (Bool) × (Bool) × Unit) ⊕ ((Unit) ⊕ (Unit)))) : M (((Int) × (Int) × (Int) × (Bool) × (Bool) × Unit) ⊕ ((Unit) ⊕ (Unit))) :=
 let v30_ : Int := IntKind.i64.wrap (s0_.1 - 1)
 M.guard (decide (0 ≤ v30_) && decide (v30_ < ((x.1.2.1 : Nat) : Int)))
 (M.deref x.1.1 fun a31_ =>
 M.load (.cell (.int .i64)) 1 (a31_.add ((Int.toNat v30_) * 1)) fun (x32_ : Int) =>
 M.guard (decide (0 ≤ j11_.1) && decide (j11_.1 < ((x.1.2.1 : Nat) : Int)))
 (M.deref x.1.1 fun a33_ =>
 M.load (.cell (.int .i64)) 1 (a33_.add ((Int.toNat j11_.1) * 1)) fun (x34_ : Int) =>
 M.callS (.one (.cell .bool)) (X (.call 152 [(.int .i64 x32_), (.int .i64 x34_)])) fun (r35_ : Bool) =>
 go16_ ((!r35_), ())))
def f132c3 (X : Task → M Value) (L : LoopI) (x : ((Option Addr × Nat × Nat)) × (Int) × (Int) × (Int) × Unit) (s0_ : (Int) × (Int) × (Int) × (Bool) × (Bool) × Unit) (go2_ : ((Int) × (Int) × (Int) × (Bool) × (Bool) × Unit) → M (((Int) × (Int) × (Int) × (Bool) × (Bool) × Unit) ⊕ ((Unit) ⊕ (Unit)))) (v3_ : Int) (j8_ : (Int) × Unit) (j11_ : (Int) × (Int) × Unit) : M (((Int) × (Int) × (Int) × (Bool) × (Bool) × Unit) ⊕ ((Unit) ⊕ (Unit))) :=
 M.join (fun (j13_ : Unit) =>
 M.join (fun (j15_ : (Bool) × Unit) =>
 f132c1 X L x s0_ go2_ v3_ j8_ j11_ j15_) fun go16_ =>
 M.ite (decide (s0_.1 > 0))
 (f132c2 X L x s0_ j11_ go16_)
 (go16_ (false, ()))) fun go14_ =>
 M.join (fun (j37_ : (Bool) × Unit) =>
 M.ite j37_.1
 (M.callS (.one (.cell .bool)) (X (.call 151 [(.slice x.1.1 x.1.2.1 x.1.2.2), (.int .i64 s0_.1), (.int .i64 s0_.2.1)])) fun (r39_ : Bool) =>
 M.ite r39_
 (M.pure (.inr (.inl (()))))
 (go14_ (())))
 (go14_ (()))) fun go38_ =>
 M.ite s0_.2.2.2.1
 (M.ite s0_.2.2.2.2.1
 (go38_ ((j11_.2.1 == 1), ()))
 (go38_ (false, ())))
 (go38_ (false, ()))
def f132c4 (X : Task → M Value) (L : LoopI) (x : ((Option Addr × Nat × Nat)) × (Int) × (Int) × (Int) × Unit) (s0_ : (Int) × (Int) × (Int) × (Bool) × (Bool) × Unit) (go2_ : ((Int) × (Int) × (Int) × (Bool) × (Bool) × Unit) → M (((Int) × (Int) × (Int) × (Bool) × (Bool) × Unit) ⊕ ((Unit) ⊕ (Unit)))) (v3_ : Int) (j8_ : (Int) × Unit) : M (((Int) × (Int) × (Int) × (Bool) × (Bool) × Unit) ⊕ ((Unit) ⊕ (Unit))) :=
 M.callS (.tuple [(.cell (.int .i64)), (.cell (.int .i64))]) (X (.call 149 [(.slice x.1.1 x.1.2.1 x.1.2.2), (.int .i64 s0_.1), (.int .i64 s0_.2.1)])) fun (r10_ : (Int) × (Int) × Unit) =>
 M.join (fun (j11_ : (Int) × (Int) × Unit) =>
 f132c3 X L x s0_ go2_ v3_ j8_ j11_) fun go12_ =>
 M.ite (r10_.2.1 == 2)
 (M.callS (.tuple []) (X (.call 150 [(.slice x.1.1 x.1.2.1 x.1.2.2), (.int .i64 s0_.1), (.int .i64 s0_.2.1)])) fun (r42_ : Unit) =>
 go12_ ((IntKind.i64.wrap ((IntKind.i64.wrap (s0_.2.1 - 1)) - (IntKind.i64.wrap (r10_.1 - s0_.1)))), 1, ()))
 (go12_ (r10_.1, r10_.2.1, ()))
def f132c5 (X : Task → M Value) (L : LoopI) (x : ((Option Addr × Nat × Nat)) × (Int) × (Int) × (Int) × Unit) (s0_ : (Int) × (Int) × (Int) × (Bool) × (Bool) × Unit) (go2_ : ((Int) × (Int) × (Int) × (Bool) × (Bool) × Unit) → M (((Int) × (Int) × (Int) × (Bool) × (Bool) × Unit) ⊕ ((Unit) ⊕ (Unit)))) (v3_ : Int) (v4_ : Bool) : M (((Int) × (Int) × (Int) × (Bool) × (Bool) × Unit) ⊕ ((Unit) ⊕ (Unit))) :=
 M.ite v4_
 (M.callS (.tuple []) (X (.call 146 [(.slice x.1.1 x.1.2.1 x.1.2.2), (.int .i64 s0_.1), (.int .i64 s0_.2.1)])) fun (r5_ : Unit) =>
 M.pure (.inr (.inl (()))))
 (M.ite (s0_.2.2.1 == 0)
 (M.callS (.tuple []) (X (.call 147 [(.slice x.1.1 x.1.2.1 x.1.2.2), (.int .i64 s0_.1), (.int .i64 s0_.2.1)])) fun (r7_ : Unit) =>
 M.pure (.inr (.inl (()))))
 (M.join (fun (j8_ : (Int) × Unit) =>
 f132c4 X L x s0_ go2_ v3_ j8_) fun go9_ =>
 M.ite (!s0_.2.2.2.1)
 (M.callS (.tuple []) (X (.call 148 [(.slice x.1.1 x.1.2.1 x.1.2.2), (.int .i64 s0_.1), (.int .i64 s0_.2.1)])) fun (r47_ : Unit) =>
 go9_ ((IntKind.i64.wrap (s0_.2.2.1 - 1)), ()))
 (go9_ (s0_.2.2.1, ()))))
def f132 (X : Task → M Value) (L : LoopI) (x : ((Option Addr × Nat × Nat)) × (Int) × (Int) × (Int) × Unit) : M Value :=
 M.bind (L (σ := (Int) × (Int) × (Int) × (Bool) × (Bool) × Unit) (ρ := (Unit) ⊕ (Unit)) (fun s0_ =>
 M.join (fun (j1_ : (Int) × (Int) × (Int) × (Bool) × (Bool) × Unit) =>
 M.pure (.inl (j1_.1, j1_.2.1, j1_.2.2.1, j1_.2.2.2.1, j1_.2.2.2.2.1, ()))) fun go2_ =>
 let v3_ : Int := IntKind.i64.wrap (s0_.2.1 - s0_.1)
 f132c5 X L x s0_ go2_ v3_ (decide (v3_ ≤ 12))) (x.2.1, x.2.2.1, x.2.2.2.1, true, true, ())) <| M.sum (fun (j49_ : Unit) =>
 M.pure (.tuple ⟨[]⟩)) (fun _ => M.stuck)

theorem e132 (X : Task → M Value) (L : LoopI) (x : ((Option Addr × Nat × Nat)) × (Int) × (Int) × (Int) × Unit) : evBody CC { call := X, loop := L } 132 (shsInj [(.cell .slice), (.cell (.int .i64)), (.cell (.int .i64)), (.cell (.int .i64))] x) = f132 X L x := by kernel_rfl

/-- math/bits.Len -/
def f133 (X : Task → M Value) (L : LoopI) (x : (Int) × Unit) : M Value :=
 M.callS (.one (.cell (.int .i64))) (X (.call 156 [(.int .u64 x.1)])) fun (r0_ : Int) =>
 M.pure (.int .i64 r0_)

theorem e133 (X : Task → M Value) (L : LoopI) (x : (Int) × Unit) : evBody CC { call := X, loop := L } 133 (shsInj [(.cell (.int .u64))] x) = f133 X L x := by kernel_rfl

/-- slices.Clone[[]uint32,uint32] -/
def f134 (X : Task → M Value) (L : LoopI) (x : ((Option Addr × Nat × Nat)) × Unit) : M Value :=
 M.ite x.1.1.isNone
 (M.pure (.slice none 0 0))
 (M.new (.cells (Row.ofList []) 31 false (0, 0) false) fun b0_ =>
 M.append 31 1 4 (some (Addr.mk b0_ 0 none)) 0 0 (.slice x.1.1 x.1.2.1 x.1.2.2) fun a1_ n2_ c3_ =>
 M.pure (.slice a1_ n2_ c3_))

theorem e134 (X : Task → M Value) (L : LoopI) (x : ((Option Addr × Nat × Nat)) × Unit) : evBody CC { call := X, loop := L } 134 (shsInj [(.cell .slice)] x) = f134 X L x := by kernel_rfl

/-- (*hayrick/array.Array).Off -/
def f135 (X : Task → M Value) (L : LoopI) (x : (Option Addr) × Unit) : M Value :=
 M.join (fun (j0_ : (Bool) × Unit) =>
 M.pure (.bool j0_.1)) fun go1_ =>
 M.eqPtr x.1 none fun (q2_ : Bool) =>
 M.ite q2_
 (go1_ (true, ()))
 (M.deref x.1 fun a3_ =>
 M.load (.cell .bool) 1 (a3_.add 4) fun (x4_ : Bool) =>
 go1_ (x4_, ()))

theorem e135 (X : Task → M Value) (L : LoopI) (x : (Option Addr) × Unit) : evBody CC { call := X, loop := L } 135 (shsInj [(.cell .ptr)] x) = f135 X L x := by kernel_rfl

/-- hayrick/code.even -/
def f136c0 (X : Task → M Value) (L : LoopI) (x : ((Option Addr × Nat × Nat)) × Unit) (s1_ : (Int) × Unit) : M (((Int) × Unit) ⊕ ((Unit) ⊕ (((Bool) × Unit) ⊕ (Unit)))) :=
 M.guard (decide (0 ≤ s1_.1) && decide (s1_.1 < ((x.1.2.1 : Nat) : Int)))
 (M.deref x.1.1 fun a3_ =>
 M.load (.cell .slice) 1 (a3_.add ((Int.toNat s1_.1) * 1)) fun (x4_ : (Option Addr × Nat × Nat)) =>
 M.guard (decide (0 ≤ 0) && decide (0 < ((x.1.2.1 : Nat) : Int)))
 (M.deref x.1.1 fun a6_ =>
 M.load (.cell .slice) 1 (a6_.add ((Int.toNat 0) * 1)) fun (x7_ : (Option Addr × Nat × Nat)) =>
 M.ite (!(((x4_.2.1 : Nat) : Int) == ((x7_.2.1 : Nat) : Int)))
 (M.pure (.inr (.inr (.inl (false, ())))))
 (M.pure (.inl ((IntKind.i64.wrap (s1_.1 + 1)), ())))))
def f136 (X : Task → M Value) (L : LoopI) (x : ((Option Addr × Nat × Nat)) × Unit) : M Value :=
 M.bind (L (σ := (Int) × Unit) (ρ := (Unit) ⊕ (((Bool) × Unit) ⊕ (Unit))) (fun s1_ =>
 M.ite (decide (s1_.1 < ((x.1.2.1 : Nat) : Int)))
 (f136c0 X L x s1_)
 (M.pure (.inr (.inl (()))))) (0, ())) <| M.sum (fun (j11_ : Unit) =>
 M.pure (.bool true)) (M.sum (fun (j12_ : (Bool) × Unit) =>
 M.pure (.bool j12_.1)) (fun _ => M.stuck))

theorem e136 (X : Task → M Value) (L : LoopI) (x : ((Option Addr × Nat × Nat)) × Unit) : evBody CC { call := X, loop := L } 136 (shsInj [(.cell .slice)] x) = f136 X L x := by kernel_rfl

/-- hayrick/code.mix -/
def f137c0 (X : Task → M Value) (L : LoopI) (v2_ : Int) (b3_ : Nat) (s16_ : (Int) × Unit) (x19_ : Int) (x20_ : Int) (x22_ : Int) : M (((Int) × Unit) ⊕ ((Unit) ⊕ (Unit))) :=
 M.callS (.one (.cell (.int .u8))) (X (.call 158 [(.int .u8 x19_), (.int .u8 x22_)])) fun (r23_ : Int) =>
 M.load (.cell (.int .u8)) 1 ((Addr.mk b3_ 0 none).add ((Int.toNat s16_.1) * 1)) fun (x24_ : Int) => cond (veqv (.int .u8 x24_) (.int .u8 x20_)) (M.callS (.one (.cell (.int .u8))) (X (.call 157 [(.int .u8 x20_), (.int .u8 r23_)])) fun (r25_ : Int) =>
 M.guard (decide (0 ≤ s16_.1) && decide (s16_.1 < (((Int.toNat v2_) : Nat) : Int)))
 (M.store ((Addr.mk b3_ 0 none).add ((Int.toNat s16_.1) * 1)) [(.int .u8 r25_)]
 (M.pure (.inl ((IntKind.i64.wrap (s16_.1 + 1)), ()))))) M.stuck
def f137c1 (X : Task → M Value) (L : LoopI) (x : ((Option Addr × Nat × Nat)) × ((Option Addr × Nat × Nat)) × Unit) (v2_ : Int) (b3_ : Nat) (s5_ : (Int) × Unit) (x11_ : (Option Addr × Nat × Nat)) (s16_ : (Int) × Unit) : M (((Int) × Unit) ⊕ ((Unit) ⊕ (Unit))) :=
 M.guard (decide (0 ≤ s16_.1) && decide (s16_.1 < ((x11_.2.1 : Nat) : Int)))
 (M.deref x11_.1 fun a18_ =>
 M.load (.cell (.int .u8)) 1 (a18_.add ((Int.toNat s16_.1) * 1)) fun (x19_ : Int) =>
 M.guard (decide (0 ≤ s16_.1) && decide (s16_.1 < (((Int.toNat v2_) : Nat) : Int)))
 (M.load (.cell (.int .u8)) 1 ((Addr.mk b3_ 0 none).add ((Int.toNat s16_.1) * 1)) fun (x20_ : Int) =>
 M.guard (decide (0 ≤ s5_.1) && decide (s5_.1 < ((x.1.2.1 : Nat) : Int)))
 (M.deref x.1.1 fun a21_ =>
 M.load (.cell (.int .u8)) 1 (a21_.add ((Int.toNat s5_.1) * 1)) fun (x22_ : Int) =>
 f137c0 X L v2_ b3_ s16_ x19_ x20_ x22_)))
def f137c2 (X : Task → M Value) (L : LoopI) (x : ((Option Addr × Nat × Nat)) × ((Option Addr × Nat × Nat)) × Unit) (v2_ : Int) (b3_ : Nat) (s5_ : (Int) × Unit) (go8_ : (Unit) → M (((Int) × Unit) ⊕ ((Unit) ⊕ (Unit)))) (a10_ : Addr) : M (((Int) × Unit) ⊕ ((Unit) ⊕ (Unit))) :=
 M.load (.cell .slice) 1 (a10_.add ((Int.toNat s5_.1) * 1)) fun (x11_ : (Option Addr × Nat × Nat)) =>
 M.guard (decide (0 ≤ s5_.1) && decide (s5_.1 < ((x.1.2.1 : Nat) : Int)))
 (M.deref x.1.1 fun a12_ =>
 M.load (.cell (.int .u8)) 1 (a12_.add ((Int.toNat s5_.1) * 1)) fun (x13_ : Int) =>
 M.ite (x13_ == 0)
 (go8_ (()))
 (M.bind (L (σ := (Int) × Unit) (ρ := (Unit) ⊕ (Unit)) (fun s16_ =>
 M.ite (decide (s16_.1 < ((x11_.2.1 : Nat) : Int)))
 (f137c1 X L x v2_ b3_ s5_ x11_ s16_)
 (M.pure (.inr (.inl (()))))) (0, ())) <| M.sum (fun (j27_ : Unit) =>
 go8_ (())) (fun _ => M.stuck)))
def f137c3 (X : Task → M Value) (L : LoopI) (x : ((Option Addr × Nat × Nat)) × ((Option Addr × Nat × Nat)) × Unit) (v2_ : Int) (b3_ : Nat) : M (Value) :=
 M.bind (L (σ := (Int) × Unit) (ρ := (Unit) ⊕ (Unit)) (fun s5_ =>
 M.ite (decide (s5_.1 < ((x.2.1.2.1 : Nat) : Int)))
 (M.join (fun (j7_ : Unit) =>
 M.pure (.inl ((IntKind.i64.wrap (s5_.1 + 1)), ()))) fun go8_ =>
 M.guard (decide (0 ≤ s5_.1) && decide (s5_.1 < ((x.2.1.2.1 : Nat) : Int)))
 (M.deref x.2.1.1 fun a10_ =>
 f137c2 X L x v2_ b3_ s5_ go8_ a10_))
 (M.pure (.inr (.inl (()))))) (0, ())) <| M.sum (fun (j28_ : Unit) =>
 M.pure (.slice (some (Addr.mk b3_ 0 none)) (Int.toNat v2_) (Int.toNat v2_))) (fun _ => M.stuck)
def f137 (X : Task → M Value) (L : LoopI) (x : ((Option Addr × Nat × Nat)) × ((Option Addr × Nat × Nat)) × Unit) : M Value :=
 M.guard (decide (0 ≤ 0) && decide (0 < ((x.2.1.2.1 : Nat) : Int)))
 (M.deref x.2.1.1 fun a0_ =>
 M.load (.cell .slice) 1 (a0_.add ((Int.toNat 0) * 1)) fun (x1_ : (Option Addr × Nat × Nat)) =>
 let v2_ : Int := ((x1_.2.1 : Nat) : Int)
 M.guard (decide (0 ≤ v2_) && decide (v2_ ≤ v2_) && decide ((1 : Int) * v2_ ≤ 2 ^ 48))
 (M.new (.cells (Row.rep [(.int .u8 0)] (Int.toNat v2_)) 5 false (0, 0) false) fun b3_ =>
 f137c3 X L x v2_ b3_))

theorem e137 (X : Task → M Value) (L : LoopI) (x : ((Option Addr × Nat × Nat)) × ((Option Addr × Nat × Nat)) × Unit) : evBody CC { call := X, loop := L } 137 (shsInj [(.cell .slice), (.cell .slice)] x) = f137 X L x := by kernel_rfl

/-- hayrick/code.row -/
def f138c0 (X : Task → M Value) (L : LoopI) (x : (Int) × (Int) × Unit) (b0_ : Nat) (s2_ : (Int) × Unit) (go5_ : (Unit) → M (((Int) × Unit) ⊕ ((Unit) ⊕ (Unit)))) (j7_ : (Bool) × Unit) : M (((Int) × Unit) ⊕ ((Unit) ⊕ (Unit))) :=
 M.ite j7_.1
 (M.guard (decide (0 ≤ s2_.1) && decide (s2_.1 < (((Int.toNat x.1) : Nat) : Int)))
 (M.store ((Addr.mk b0_ 0 none).add ((Int.toNat s2_.1) * 1)) [(.int .u8 1)]
 (go5_ (()))))
 (M.ite (decide (x.2.1 ≥ x.1))
 (M.callS (.one (.cell (.int .u8))) (X (.call 157 [(.int .u8 (IntKind.u8.wrap x.2.1)), (.int .u8 (IntKind.u8.wrap s2_.1))])) fun (r12_ : Int) =>
 M.callS (.tuple [(.cell (.int .u8)), (.cell (.int .i64))]) (X (.call 159 [(.int .u8 r12_)])) fun (r13_ : (Int) × (Int) × Unit) =>
 M.guard (decide (0 ≤ s2_.1) && decide (s2_.1 < (((Int.toNat x.1) : Nat) : Int)))
 (M.store ((Addr.mk b0_ 0 none).add ((Int.toNat s2_.1) * 1)) [(.int .u8 r13_.1)]
 (go5_ (()))))
 (go5_ (())))
def f138c1 (X : Task → M Value) (L : LoopI) (x : (Int) × (Int) × Unit) (b0_ : Nat) (v1_ : Int) : M (Value) :=
 M.bind (L (σ := (Int) × Unit) (ρ := (Unit) ⊕ (Unit)) (fun s2_ =>
 M.ite (decide (s2_.1 < v1_))
 (M.join (fun (j4_ : Unit) =>
 M.pure (.inl ((IntKind.i64.wrap (s2_.1 + 1)), ()))) fun go5_ =>
 M.join (fun (j7_ : (Bool) × Unit) =>
 f138c0 X L x b0_ s2_ go5_ j7_) fun go8_ =>
 M.ite (decide (x.2.1 < x.1))
 (go8_ ((x.2.1 == s2_.1), ()))
 (go8_ (false, ())))
 (M.pure (.inr (.inl (()))))) (0, ())) <| M.sum (fun (j16_ : Unit) =>
 M.pure (.slice (some (Addr.mk b0_ 0 none)) (Int.toNat x.1) (Int.toNat x.1))) (fun _ => M.stuck)
def f138 (X : Task → M Value) (L : LoopI) (x : (Int) × (Int) × Unit) : M Value :=
 M.guard (decide (0 ≤ x.1) && decide (x.1 ≤ x.1) && decide ((1 : Int) * x.1 ≤ 2 ^ 48))
 (M.new (.cells (Row.rep [(.int .u8 0)] (Int.toNat x.1)) 5 false (0, 0) false) fun b0_ =>
 f138c1 X L x b0_ (((Int.toNat x.1) : Nat) : Int))

theorem e138 (X : Task → M Value) (L : LoopI) (x : (Int) × (Int) × Unit) : evBody CC { call := X, loop := L } 138 (shsInj [(.cell (.int .i64)), (.cell (.int .i64))] x) = f138 X L x := by kernel_rfl

/-- (*hayrick/array.Array).Write -/
def f140c0 (X : Task → M Value) (L : LoopI) (x : (Option Addr) × (Int) × (Int) × ((Option Addr × Nat × Nat)) × Unit) (b5_ : Nat) (a7_ : Addr) : M (Value) :=
 M.load (.cell .slice) 1 (a7_.add 2) fun (x8_ : (Option Addr × Nat × Nat)) =>
 M.load .raw 66 (Addr.mk b5_ 0 none) fun (x9_ : List Value) =>
 M.need (fillA (fun i => some (i * 66, 66)) (repeatA (zc 185) 1) [(0, (.agg ⟨x9_⟩))]) fun x10_ =>
 M.new (.cells (Row.ofList x10_) 185 false (0, 0) false) fun b11_ =>
 M.append 185 66 80 x8_.1 x8_.2.1 x8_.2.2 (.slice (some (Addr.mk b11_ 0 none)) 1 1) fun a12_ n13_ c14_ =>
 M.deref x.1 fun a15_ =>
 M.store (a15_.add 2) [(.slice a12_ n13_ c14_)]
 (M.pure (.int .i64 0))
def f140c1 (X : Task → M Value) (L : LoopI) (x : (Option Addr) × (Int) × (Int) × ((Option Addr × Nat × Nat)) × Unit) (b5_ : Nat) : M (Value) :=
 M.store (Addr.mk b5_ 0 none) [(.int .i64 x.2.1), (.int .i64 x.2.2.1), (.int .u8 0), (.int .u8 0), (.int .u8 0), (.int .u8 0), (.int .u8 0), (.int .u8 0), (.int .u8 0), (.int .u8 0), (.int .u8 0), (.int .u8 0), (.int .u8 0), (.int .u8 0), (.int .u8 0), (.int .u8 0), (.int .u8 0), (.int .u8 0), (.int .u8 0), (.int .u8 0), (.int .u8 0), (.int .u8 0), (.int .u8 0), (.int .u8 0), (.int .u8 0), (.int .u8 0), (.int .u8 0), (.int .u8 0), (.int .u8 0), (.int .u8 0), (.int .u8 0), (.int .u8 0), (.int .u8 0), (.int .u8 0), (.int .u8 0), (.int .u8 0), (.int .u8 0), (.int .u8 0), (.int .u8 0), (.int .u8 0), (.int .u8 0), (.int .u8 0), (.int .u8 0), (.int .u8 0), (.int .u8 0), (.int .u8 0), (.int .u8 0), (.int .u8 0), (.int .u8 0), (.int .u8 0), (.int .u8 0), (.int .u8 0), (.int .u8 0), (.int .u8 0), (.int .u8 0), (.int .u8 0), (.int .u8 0), (.int .u8 0), (.int .u8 0), (.int .u8 0), (.int .u8 0), (.int .u8 0), (.int .u8 0), (.int .u8 0), (.int .u8 0), (.int .u8 0)]
 (M.copy 1 (some (((Addr.mk b5_ 0 none).add 2).add (0 * 1))) (64 - 0) (.slice x.2.2.2.1.1 x.2.2.2.1.2.1 x.2.2.2.1.2.2) fun m6_ =>
 M.deref x.1 fun a7_ =>
 f140c0 X L x b5_ a7_)
def f140 (X : Task → M Value) (L : LoopI) (x : (Option Addr) × (Int) × (Int) × ((Option Addr × Nat × Nat)) × Unit) : M Value :=
 M.callS (.one (.cell (.int .i64))) (X (.call 161 [(.pointer x.1), (.int .i64 x.2.1), (.int .i64 x.2.2.1)])) fun (r0_ : Int) =>
 M.ite (!(r0_ == 0))
 (M.pure (.int .i64 r0_))
 (M.ite (!(((x.2.2.2.1.2.1 : Nat) : Int) == 64))
 (M.pure (.int .i64 1))
 (M.callS (.one (.cell .bool)) (X (.call 105 [(.pointer x.1)])) fun (r4_ : Bool) =>
 M.ite r4_
 (M.pure (.int .i64 8))
 (M.new (.cells (Row.ofList (zc 185)) 185 false (0, 0) false) fun b5_ =>
 f140c1 X L x b5_)))

theorem e140 (X : Task → M Value) (L : LoopI) (x : (Option Addr) × (Int) × (Int) × ((Option Addr × Nat × Nat)) × Unit) : evBody CC { call := X, loop := L } 140 (shsInj [(.cell .ptr), (.cell (.int .i64)), (.cell (.int .i64)), (.cell .slice)] x) = f140 X L x := by kernel_rfl

/-- (*hayrick/stripe.Stripes).sectors -/
def f141c0 (X : Task → M Value) (L : LoopI) (x : (Option Addr) × (Int) × (Int) × Unit) (s0_ : ((Option Addr × Nat × Nat)) × (Int) × Unit) (x3_ : Option Addr) (v8_ : Int) : M ((((Option Addr × Nat × Nat)) × (Int) × Unit) ⊕ ((((Option Addr × Nat × Nat)) × Unit) ⊕ ((((Option Addr × Nat × Nat)) × Unit) ⊕ (Unit)))) :=
 M.callS (.tuple [(.cell .slice), (.cell (.int .i64))]) (X (.call 162 [(.pointer x3_), (.int .i64 x.2.1), (.int .i64 v8_)])) fun (r9_ : ((Option Addr × Nat × Nat)) × (Int) × Unit) =>
 M.ite (!(r9_.2.1 == 0))
 (M.pure (.inr (.inr (.inl ((none, 0, 0), ())))))
 (M.new (.cells (Row.ofList [(.slice r9_.1.1 r9_.1.2.1 r9_.1.2.2)]) 49 false (0, 0) false) fun b11_ =>
 M.append 49 1 24 s0_.1.1 s0_.1.2.1 s0_.1.2.2 (.slice (some (Addr.mk b11_ 0 none)) 1 1) fun a12_ n13_ c14_ =>
 M.pure (.inl ((a12_, n13_, c14_), (IntKind.i64.wrap (s0_.2.1 + 1)), ())))
def f141c1 (X : Task → M Value) (L : LoopI) (x : (Option Addr) × (Int) × (Int) × Unit) : M (Value) :=
 M.bind (L (σ := ((Option Addr × Nat × Nat)) × (Int) × Unit) (ρ := (((Option Addr × Nat × Nat)) × Unit) ⊕ ((((Option Addr × Nat × Nat)) × Unit) ⊕ (Unit))) (fun s0_ =>
 M.ite (decide (s0_.2.1 < 8))
 (M.deref x.1 fun a2_ =>
 M.load (.cell .ptr) 1 (a2_.add 0) fun (x3_ : Option Addr) =>
 M.deref x.1 fun a4_ =>
 M.load (.cell (.int .i64)) 1 (a4_.add 4) fun (x5_ : Int) =>
 f141c0 X L x s0_ x3_ (IntKind.i64.wrap ((IntKind.i64.wrap (x5_ + (IntKind.i64.wrap (x.2.2.1 * 8)))) + s0_.2.1)))
 (M.pure (.inr (.inl (s0_.1, ()))))) ((none, 0, 0), 0, ())) <| M.sum (fun (j16_ : ((Option Addr × Nat × Nat)) × Unit) =>
 M.pure (.slice j16_.1.1 j16_.1.2.1 j16_.1.2.2)) (M.sum (fun (j17_ : ((Option Addr × Nat × Nat)) × Unit) =>
 M.pure (.slice j17_.1.1 j17_.1.2.1 j17_.1.2.2)) (fun _ => M.stuck))
def f141 (X : Task → M Value) (L : LoopI) (x : (Option Addr) × (Int) × (Int) × Unit) : M Value :=
 f141c1 X L x

theorem e141 (X : Task → M Value) (L : LoopI) (x : (Option Addr) × (Int) × (Int) × Unit) : evBody CC { call := X, loop := L } 141 (shsInj [(.cell .ptr), (.cell (.int .i64)), (.cell (.int .i64))] x) = f141 X L x := by kernel_rfl

/-- hayrick/stamp.Take -/
def f142c0 (X : Task → M Value) (L : LoopI) (x : ((Option Addr × Nat × Nat)) × Unit) (v4_ : Nat) (v5_ : Int) : M (Value) :=
 M.bind (L (σ := (Int) × (Int) × Unit) (ρ := ((Int) × Unit) ⊕ (Unit)) (fun s6_ =>
 M.ite (decide (s6_.2.1 < v5_))
 (M.guard (decide (0 ≤ s6_.2.1) && decide (s6_.2.1 < (((v4_ - 0) : Nat) : Int)))
 (M.deref (x.1.1.map (·.add (0 * 1))) fun a8_ =>
 M.load (.cell (.int .u8)) 1 (a8_.add ((Int.toNat s6_.2.1) * 1)) fun (x9_ : Int) =>
 M.guard (decide (0 ≤ 8))
 (M.pure (.inl ((bitsV .or .u64 (IntKind.u64.wrap (s6_.1 * 2 ^ (min (Int.toNat 8) IntKind.u64.bits))) (IntKind.u64.wrap x9_)), (IntKind.i64.wrap (s6_.2.1 + 1)), ())))))
 (M.pure (.inr (.inl (s6_.1, ()))))) (0, 0, ())) <| M.sum (fun (j14_ : (Int) × Unit) =>
 M.guard (decide (0 ≤ 8) && decide (8 ≤ ((x.1.2.1 : Nat) : Int)))
 (let v15_ : Nat := (Int.toNat 8)
 M.callS (.one (.cell .slice)) (X (.call 57 [(.slice (x.1.1.map (·.add (v15_ * 1))) (x.1.2.1 - v15_) (x.1.2.2 - v15_))])) fun (r16_ : (Option Addr × Nat × Nat)) =>
 M.pure (.tuple ⟨[(.int .u64 j14_.1), (.slice r16_.1 r16_.2.1 r16_.2.2), (.int .i64 0)]⟩))) (fun _ => M.stuck)
def f142 (X : Task → M Value) (L : LoopI) (x : ((Option Addr × Nat × Nat)) × Unit) : M Value :=
 M.ite (decide (((x.1.2.1 : Nat) : Int) < 64))
 (M.pure (.tuple ⟨[(.int .u64 0), (.slice none 0 0), (.int .i64 4)]⟩))
 (M.ite (decide (((x.1.2.1 : Nat) : Int) > 64))
 (M.pure (.tuple ⟨[(.int .u64 0), (.slice none 0 0), (.int .i64 3)]⟩))
 (M.guard (decide (0 ≤ 8) && decide (8 ≤ ((x.1.2.2 : Nat) : Int)))
 (let v4_ : Nat := (Int.toNat 8)
 f142c0 X L x v4_ (((v4_ - 0) : Nat) : Int))))

theorem e142 (X : Task → M Value) (L : LoopI) (x : ((Option Addr × Nat × Nat)) × Unit) : evBody CC { call := X, loop := L } 142 (shsInj [(.cell .slice)] x) = f142 X L x := by kernel_rfl

/-- hayrick/chunk.Take$1 -/
def f143c0 (X : Task → M Value) (L : LoopI) (x : ((Option Addr × Nat × Nat)) × (Option Addr) × (Option Addr) × Unit) (r0_ : (Int) × ((Option Addr × Nat × Nat)) × (Int) × Unit) : M (Value) :=
 M.deref x.2.1 fun a1_ =>
 M.load (.cell .slice) 1 a1_ fun (x2_ : (Option Addr × Nat × Nat)) =>
 M.append 5 1 1 x2_.1 x2_.2.1 x2_.2.2 (.slice r0_.2.1.1 r0_.2.1.2.1 r0_.2.1.2.2) fun a3_ n4_ c5_ =>
 M.deref x.2.1 fun a6_ =>
 M.store a6_ [(.slice a3_ n4_ c5_)]
 (M.join (fun (j7_ : (Bool) × Unit) =>
 M.pure (.bool j7_.1)) fun go8_ =>
 M.ite (!(r0_.2.2.1 == 0))
 (go8_ (true, ()))
 (M.deref x.2.2.1 fun a10_ =>
 M.load (.cell (.int .u64)) 1 a10_ fun (x11_ : Int) =>
 M.ite (!(r0_.1 == x11_))
 (go8_ (true, ()))
 (go8_ ((r0_.1 == 0), ()))))
def f143 (X : Task → M Value) (L : LoopI) (x : ((Option Addr × Nat × Nat)) × (Option Addr) × (Option Addr) × Unit) : M Value :=
 M.callS (.tuple [(.cell (.int .u64)), (.cell .slice), (.cell (.int .i64))]) (X (.call 142 [(.slice x.1.1 x.1.2.1 x.1.2.2)])) fun (r0_ : (Int) × ((Option Addr × Nat × Nat)) × (Int) × Unit) =>
 f143c0 X L x r0_

theorem e143 (X : Task → M Value) (L : LoopI) (x : ((Option Addr × Nat × Nat)) × (Option Addr) × (Option Addr) × Unit) : evBody CC { call := X, loop := L } 143 (shsInj [(.cell .slice), (.cell .ptr), (.cell .ptr)] x) = f143 X L x := by kernel_rfl

/-- slices.ContainsFunc[[][]byte,[]byte] -/
def f144 (X : Task → M Value) (L : LoopI) (x : ((Option Addr × Nat × Nat)) × (Value) × Unit) : M Value :=
 M.callS (.one (.cell (.int .i64))) (X (.call 163 [(.slice x.1.1 x.1.2.1 x.1.2.2), x.2.1])) fun (r0_ : Int) =>
 M.pure (.bool (decide (r0_ ≥ 0)))

theorem e144 (X : Task → M Value) (L : LoopI) (x : ((Option Addr × Nat × Nat)) × (Value) × Unit) : evBody CC { call := X, loop := L } 144 (shsInj [(.cell .slice), (.cell .val)] x) = f144 X L x := by kernel_rfl

/-- hayrick/matrix.Invert -/
def f145c0 (X : Task → M Value) (L : LoopI) (x : ((Option Addr × Nat × Nat)) × Unit) (v6_ : Int) (b7_ : Nat) (s9_ : (Int) × Unit) : M (((Int) × Unit) ⊕ ((Unit) ⊕ (Unit))) :=
 M.guard (decide (0 ≤ s9_.1) && decide (s9_.1 < ((x.1.2.1 : Nat) : Int)))
 (M.deref x.1.1 fun a11_ =>
 M.load (.cell .slice) 1 (a11_.add ((Int.toNat s9_.1) * 1)) fun (x12_ : (Option Addr × Nat × Nat)) =>
 M.callS (.one (.cell .slice)) (X (.call 57 [(.slice x12_.1 x12_.2.1 x12_.2.2)])) fun (r13_ : (Option Addr × Nat × Nat)) =>
 M.guard (decide (0 ≤ s9_.1) && decide (s9_.1 < (((Int.toNat v6_) : Nat) : Int)))
 (M.store ((Addr.mk b7_ 0 none).add ((Int.toNat s9_.1) * 1)) [(.slice r13_.1 r13_.2.1 r13_.2.2)]
 (M.pure (.inl ((IntKind.i64.wrap (s9_.1 + 1)), ())))))
def f145c1 (X : Task → M Value) (L : LoopI) (x : ((Option Addr × Nat × Nat)) × Unit) (b0_ : Nat) (b1_ : Nat) (v6_ : Int) (b7_ : Nat) (v8_ : Int) : M (Unit) :=
 M.bind (L (σ := (Int) × Unit) (ρ := (Unit) ⊕ (Unit)) (fun s9_ =>
 M.ite (decide (s9_.1 < v8_))
 (f145c0 X L x v6_ b7_ s9_)
 (M.pure (.inr (.inl (()))))) (0, ())) <| M.sum (fun (j15_ : Unit) =>
 M.callS (.tuple [(.cell .slice), (.cell (.int .i64))]) (X (.call 166 [(.int .i64 ((x.1.2.1 : Nat) : Int))])) fun (r17_ : ((Option Addr × Nat × Nat)) × (Int) × Unit) =>
 M.callS (.tuple []) (X (.call 167 [(.slice (some (Addr.mk b7_ 0 none)) (Int.toNat v6_) (Int.toNat v6_)), (.slice r17_.1.1 r17_.1.2.1 r17_.1.2.2)])) fun (r18_ : Unit) =>
 M.store (Addr.mk b0_ 0 none) [(.slice r17_.1.1 r17_.1.2.1 r17_.1.2.2)]
 (M.store (Addr.mk b1_ 0 none) [(.int .i64 0)]
 (M.pure ()))) (fun _ => M.stuck)
def f145c2 (X : Task → M Value) (L : LoopI) (x : ((Option Addr × Nat × Nat)) × Unit) (b0_ : Nat) (b1_ : Nat) : M (Value) :=
 M.afterDefer
 (let v6_ : Int := ((x.1.2.1 : Nat) : Int)
 M.guard (decide (0 ≤ v6_) && decide (v6_ ≤ v6_) && decide ((24 : Int) * v6_ ≤ 2 ^ 48))
 (M.new (.cells (Row.rep [(.slice none 0 0)] (Int.toNat v6_)) 49 false (0, 0) false) fun b7_ =>
 f145c1 X L x b0_ b1_ v6_ b7_ ((x.1.2.1 : Nat) : Int)))
 (fun rc_ => X (.deferred 165 [(.pointer (some (Addr.mk b0_ 0 none))), (.pointer (some (Addr.mk b1_ 0 none)))] rc_))
 (M.load (.cell .slice) 1 (Addr.mk b0_ 0 none) fun (x19_ : (Option Addr × Nat × Nat)) =>
 M.load (.cell (.int .i64)) 1 (Addr.mk b1_ 0 none) fun (x20_ : Int) =>
 M.pure (.tuple ⟨[(.slice x19_.1 x19_.2.1 x19_.2.2), (.int .i64 x20_)]⟩))
def f145c3 (X : Task → M Value) (L : LoopI) (x : ((Option Addr × Nat × Nat)) × Unit) (b0_ : Nat) (b1_ : Nat) : M (Value) :=
 M.join (fun (j2_ : (Bool) × Unit) =>
 M.ite j2_.1
 (M.store (Addr.mk b0_ 0 none) [(.slice none 0 0)]
 (M.store (Addr.mk b1_ 0 none) [(.int .i64 1)]
 (M.load (.cell .slice) 1 (Addr.mk b0_ 0 none) fun (x4_ : (Option Addr × Nat × Nat)) =>
 M.load (.cell (.int .i64)) 1 (Addr.mk b1_ 0 none) fun (x5_ : Int) =>
 M.pure (.tuple ⟨[(.slice x4_.1 x4_.2.1 x4_.2.2), (.int .i64 x5_)]⟩))))
 (f145c2 X L x b0_ b1_)) fun go3_ =>
 M.callS (.one (.cell .bool)) (X (.call 164 [(.slice x.1.1 x.1.2.1 x.1.2.2)])) fun (r21_ : Bool) =>
 M.ite (!r21_)
 (go3_ (true, ()))
 (M.guard (decide (0 ≤ 0) && decide (0 < ((x.1.2.1 : Nat) : Int)))
 (M.deref x.1.1 fun a24_ =>
 M.load (.cell .slice) 1 (a24_.add ((Int.toNat 0) * 1)) fun (x25_ : (Option Addr × Nat × Nat)) =>
 go3_ ((!(((x.1.2.1 : Nat) : Int) == ((x25_.2.1 : Nat) : Int))), ())))
def f145 (X : Task → M Value) (L : LoopI) (x : ((Option Addr × Nat × Nat)) × Unit) : M Value :=
 M.new (.cells (Row.ofList [(.slice none 0 0)]) 243 false (0, 0) false) fun b0_ =>
 M.new (.cells (Row.ofList [(.int .i64 0)]) 29 false (0, 0) false) fun b1_ =>
 f145c3 X L x b0_ b1_

theorem e145 (X : Task → M Value) (L : LoopI) (x : ((Option Addr × Nat × Nat)) × Unit) : evBody CC { call := X, loop := L } 145 (shsInj [(.cell .slice)] x) = f145 X L x := by kernel_rfl

/-- slices.insertionSortOrdered[int] -/
def f146c0 (X : Task → M Value) (L : LoopI) (x : ((Option Addr × Nat × Nat)) × (Int) × (Int) × Unit) (s3_ : (Int) × Unit) (v6_ : Int) (x9_ : Int) : M (((Int) × Unit) ⊕ ((Unit) ⊕ (Unit))) :=
 M.guard (decide (0 ≤ s3_.1) && decide (s3_.1 < ((x.1.2.1 : Nat) : Int)))
 (M.deref x.1.1 fun a10_ =>
 M.load (.cell (.int .i64)) 1 (a10_.add ((Int.toNat s3_.1) * 1)) fun (x11_ : Int) =>
 M.guard (decide (0 ≤ s3_.1) && decide (s3_.1 < ((x.1.2.1 : Nat) : Int)))
 (M.deref x.1.1 fun a12_ =>
 M.store (a12_.add ((Int.toNat s3_.1) * 1)) [(.int .i64 x9_)]
 (M.guard (decide (0 ≤ v6_) && decide (v6_ < ((x.1.2.1 : Nat) : Int)))
 (M.deref x.1.1 fun a13_ =>
 M.store (a13_.add ((Int.toNat v6_) * 1)) [(.int .i64 x11_)]
 (M.pure (.inl ((IntKind.i64.wrap (s3_.1 - 1)), ())))))))
def f146c1 (X : Task → M Value) (L : LoopI) (x : ((Option Addr × Nat × Nat)) × (Int) × (Int) × Unit) (s3_ : (Int) × Unit) (go5_ : ((Bool) × Unit) → M (((Int) × Unit) ⊕ ((Unit) ⊕ (Unit)))) : M (((Int) × Unit) ⊕ ((Unit) ⊕ (Unit))) :=
 M.guard (decide (0 ≤ s3_.1) && decide (s3_.1 < ((x.1.2.1 : Nat) : Int)))
 (M.deref x.1.1 fun a16_ =>
 M.load (.cell (.int .i64)) 1 (a16_.add ((Int.toNat s3_.1) * 1)) fun (x17_ : Int) =>
 let v18_ : Int := IntKind.i64.wrap (s3_.1 - 1)
 M.guard (decide (0 ≤ v18_) && decide (v18_ < ((x.1.2.1 : Nat) : Int)))
 (M.deref x.1.1 fun a19_ =>
 M.load (.cell (.int .i64)) 1 (a19_.add ((Int.toNat v18_) * 1)) fun (x20_ : Int) =>
 M.callS (.one (.cell .bool)) (X (.call 152 [(.int .i64 x17_), (.int .i64 x20_)])) fun (r21_ : Bool) =>
 go5_ (r21_, ())))
def f146c2 (X : Task → M Value) (L : LoopI) (x : ((Option Addr × Nat × Nat)) × (Int) × (Int) × Unit) (s1_ : (Int) × Unit) : M (((Int) × Unit) ⊕ ((Unit) ⊕ (Unit))) :=
 M.bind (L (σ := (Int) × Unit) (ρ := (Unit) ⊕ (Unit)) (fun s3_ =>
 M.join (fun (j4_ : (Bool) × Unit) =>
 M.ite j4_.1
 (let v7_ : Int := IntKind.i64.wrap (s3_.1 - 1)
 M.guard (decide (0 ≤ v7_) && decide (v7_ < ((x.1.2.1 : Nat) : Int)))
 (M.deref x.1.1 fun a8_ =>
 M.load (.cell (.int .i64)) 1 (a8_.add ((Int.toNat v7_) * 1)) fun (x9_ : Int) =>
 f146c0 X L x s3_ (IntKind.i64.wrap (s3_.1 - 1)) x9_))
 (M.pure (.inr (.inl (()))))) fun go5_ =>
 M.ite (decide (s3_.1 > x.2.1))
 (f146c1 X L x s3_ go5_)
 (go5_ (false, ()))) (s1_.1, ())) <| M.sum (fun (j22_ : Unit) =>
 M.pure (.inl ((IntKind.i64.wrap (s1_.1 + 1)), ()))) (fun _ => M.stuck)
def f146 (X : Task → M Value) (L : LoopI) (x : ((Option Addr × Nat × Nat)) × (Int) × (Int) × Unit) : M Value :=
 M.bind (L (σ := (Int) × Unit) (ρ := (Unit) ⊕ (Unit)) (fun s1_ =>
 M.ite (decide (s1_.1 < x.2.2.1))
 (f146c2 X L x s1_)
 (M.pure (.inr (.inl (()))))) ((IntKind.i64.wrap (x.2.1 + 1)), ())) <| M.sum (fun (j24_ : Unit) =>
 M.pure (.tuple ⟨[]⟩)) (fun _ => M.stuck)

theorem e146 (X : Task → M Value) (L : LoopI) (x : ((Option Addr × Nat × Nat)) × (Int) × (Int) × Unit) : evBody CC { call := X, loop := L } 146 (shsInj [(.cell .slice), (.cell (.int .i64)), (.cell (.int .i64))] x) = f146 X L x := by kernel_rfl

/-- slices.heapSortOrdered[int] -/
def f147c0 (X : Task → M Value) (L : LoopI) (x : ((Option Addr × Nat × Nat)) × (Int) × (Int) × Unit) (s9_ : (Int) × Unit) (v11_ : Int) (x14_ : Int) (x16_ : Int) : M (((Int) × Unit) ⊕ ((Unit) ⊕ (Unit))) :=
 M.guard (decide (0 ≤ x.2.1) && decide (x.2.1 < ((x.1.2.1 : Nat) : Int)))
 (M.deref x.1.1 fun a17_ =>
 M.store (a17_.add ((Int.toNat x.2.1) * 1)) [(.int .i64 x14_)]
 (M.guard (decide (0 ≤ v11_) && decide (v11_ < ((x.1.2.1 : Nat) : Int)))
 (M.deref x.1.1 fun a18_ =>
 M.store (a18_.add ((Int.toNat v11_) * 1)) [(.int .i64 x16_)]
 (M.callS (.tuple []) (X (.call 168 [(.slice x.1.1 x.1.2.1 x.1.2.2), (.int .i64 0), (.int .i64 s9_.1), (.int .i64 x.2.1)])) fun (r19_ : Unit) =>
 M.pure (.inl ((IntKind.i64.wrap (s9_.1 - 1)), ()))))))
def f147c1 (X : Task → M Value) (L : LoopI) (x : ((Option Addr × Nat × Nat)) × (Int) × (Int) × Unit) (s9_ : (Int) × Unit) (v10_ : Bool) : M (((Int) × Unit) ⊕ ((Unit) ⊕ (Unit))) :=
 M.ite v10_
 (let v12_ : Int := IntKind.i64.wrap (x.2.1 + s9_.1)
 M.guard (decide (0 ≤ v12_) && decide (v12_ < ((x.1.2.1 : Nat) : Int)))
 (M.deref x.1.1 fun a13_ =>
 M.load (.cell (.int .i64)) 1 (a13_.add ((Int.toNat v12_) * 1)) fun (x14_ : Int) =>
 M.guard (decide (0 ≤ x.2.1) && decide (x.2.1 < ((x.1.2.1 : Nat) : Int)))
 (M.deref x.1.1 fun a15_ =>
 M.load (.cell (.int .i64)) 1 (a15_.add ((Int.toNat x.2.1) * 1)) fun (x16_ : Int) =>
 f147c0 X L x s9_ (IntKind.i64.wrap (x.2.1 + s9_.1)) x14_ x16_)))
 (M.pure (.inr (.inl (()))))
def f147c2 (X : Task → M Value) (L : LoopI) (x : ((Option Addr × Nat × Nat)) × (Int) × (Int) × Unit) (v0_ : Int) (v2_ : Int) : M (Value) :=
 M.bind (L (σ := (Int) × Unit) (ρ := (Unit) ⊕ (Unit)) (fun s3_ =>
 M.ite (decide (s3_.1 ≥ 0))
 (M.callS (.tuple []) (X (.call 168 [(.slice x.1.1 x.1.2.1 x.1.2.2), (.int .i64 s3_.1), (.int .i64 v0_), (.int .i64 x.2.1)])) fun (r5_ : Unit) =>
 M.pure (.inl ((IntKind.i64.wrap (s3_.1 - 1)), ())))
 (M.pure (.inr (.inl (()))))) (v2_, ())) <| M.sum (fun (j7_ : Unit) =>
 M.bind (L (σ := (Int) × Unit) (ρ := (Unit) ⊕ (Unit)) (fun s9_ =>
 f147c1 X L x s9_ (decide (s9_.1 ≥ 0))) ((IntKind.i64.wrap (v0_ - 1)), ())) <| M.sum (fun (j21_ : Unit) =>
 M.pure (.tuple ⟨[]⟩)) (fun _ => M.stuck)) (fun _ => M.stuck)
def f147 (X : Task → M Value) (L : LoopI) (x : ((Option Addr × Nat × Nat)) × (Int) × (Int) × Unit) : M Value :=
 let v0_ : Int := IntKind.i64.wrap (x.2.2.1 - x.2.1)
 M.guard (!(decide (2 = 0)))
 (f147c2 X L x v0_ (IntKind.i64.wrap (((IntKind.i64.wrap (v0_ - 1)) : Int).tdiv 2)))

theorem e147 (X : Task → M Value) (L : LoopI) (x : ((Option Addr × Nat × Nat)) × (Int) × (Int) × Unit) : evBody CC { call := X, loop := L } 147 (shsInj [(.cell .slice), (.cell (.int .i64)), (.cell (.int .i64))] x) = f147 X L x := by kernel_rfl

/-- slices.breakPatternsOrdered[int] -/
def f148c0 (X : Task → M Value) (L : LoopI) (x : ((Option Addr × Nat × Nat)) × (Int) × (Int) × Unit) (s9_ : (Int) × Unit) (v21_ : Int) (x24_ : Int) : M (((Int) × Unit) ⊕ ((Unit) ⊕ (Unit))) :=
 M.guard (decide (0 ≤ s9_.1) && decide (s9_.1 < ((x.1.2.1 : Nat) : Int)))
 (M.deref x.1.1 fun a25_ =>
 M.load (.cell (.int .i64)) 1 (a25_.add ((Int.toNat s9_.1) * 1)) fun (x26_ : Int) =>
 M.guard (decide (0 ≤ s9_.1) && decide (s9_.1 < ((x.1.2.1 : Nat) : Int)))
 (M.deref x.1.1 fun a27_ =>
 M.store (a27_.add ((Int.toNat s9_.1) * 1)) [(.int .i64 x24_)]
 (M.guard (decide (0 ≤ v21_) && decide (v21_ < ((x.1.2.1 : Nat) : Int)))
 (M.deref x.1.1 fun a28_ =>
 M.store (a28_.add ((Int.toNat v21_) * 1)) [(.int .i64 x26_)]
 (M.pure (.inl ((IntKind.i64.wrap (s9_.1 + 1)), ())))))))
def f148c1 (X : Task → M Value) (L : LoopI) (x : ((Option Addr × Nat × Nat)) × (Int) × (Int) × Unit) (v0_ : Int) (r4_ : Int) (s9_ : (Int) × Unit) (r15_ : Int) : M (((Int) × Unit) ⊕ ((Unit) ⊕ (Unit))) :=
 let v18_ : Int := IntKind.i64.wrap (bitsV .and .u64 r15_ (IntKind.u64.wrap (r4_ - 1)))
 M.join (fun (j19_ : (Int) × Unit) =>
 let v22_ : Int := IntKind.i64.wrap (x.2.1 + j19_.1)
 M.guard (decide (0 ≤ v22_) && decide (v22_ < ((x.1.2.1 : Nat) : Int)))
 (M.deref x.1.1 fun a23_ =>
 M.load (.cell (.int .i64)) 1 (a23_.add ((Int.toNat v22_) * 1)) fun (x24_ : Int) =>
 f148c0 X L x s9_ (IntKind.i64.wrap (x.2.1 + j19_.1)) x24_)) fun go20_ =>
 M.ite (decide (v18_ ≥ v0_))
 (go20_ ((IntKind.i64.wrap (v18_ - v0_)), ()))
 (go20_ (v18_, ()))
def f148c2 (X : Task → M Value) (L : LoopI) (x : ((Option Addr × Nat × Nat)) × (Int) × (Int) × Unit) (v0_ : Int) (b3_ : Nat) (r4_ : Int) (v7_ : Int) : M (Value) :=
 M.bind (L (σ := (Int) × Unit) (ρ := (Unit) ⊕ (Unit)) (fun s9_ =>
 M.guard (!(decide (4 = 0)))
 (M.ite (decide (s9_.1 ≤ (IntKind.i64.wrap ((IntKind.i64.wrap (x.2.1 + (IntKind.i64.wrap ((IntKind.i64.wrap ((v0_ : Int).tdiv 4)) * 2)))) + 1))))
 (M.callS (.one (.cell (.int .u64))) (X (.call 170 [(.pointer (some (Addr.mk b3_ 0 none)))])) fun (r15_ : Int) =>
 f148c1 X L x v0_ r4_ s9_ r15_)
 (M.pure (.inr (.inl (())))))) ((IntKind.i64.wrap (v7_ - 1)), ())) <| M.sum (fun (j32_ : Unit) =>
 M.pure (.tuple ⟨[]⟩)) (fun _ => M.stuck)
def f148 (X : Task → M Value) (L : LoopI) (x : ((Option Addr × Nat × Nat)) × (Int) × (Int) × Unit) : M Value :=
 let v0_ : Int := IntKind.i64.wrap (x.2.2.1 - x.2.1)
 M.ite (decide (v0_ ≥ 8))
 (M.new (.cells (Row.ofList [(.int .u64 0)]) 267 false (0, 0) false) fun b3_ =>
 M.store (Addr.mk b3_ 0 none) [(.int .u64 (IntKind.u64.wrap v0_))]
 (M.callS (.one (.cell (.int .u64))) (X (.call 169 [(.int .i64 v0_)])) fun (r4_ : Int) =>
 M.guard (!(decide (4 = 0)))
 (f148c2 X L x v0_ b3_ r4_ (IntKind.i64.wrap (x.2.1 + (IntKind.i64.wrap ((IntKind.i64.wrap ((v0_ : Int).tdiv 4)) * 2)))))))
 (M.pure (.tuple ⟨[]⟩))

theorem e148 (X : Task → M Value) (L : LoopI) (x : ((Option Addr × Nat × Nat)) × (Int) × (Int) × Unit) : evBody CC { call := X, loop := L } 148 (shsInj [(.cell .slice), (.cell (.int .i64)), (.cell (.int .i64))] x) = f148 X L x := by kernel_rfl

/-- slices.choosePivotOrdered[int] -/
def f149c0 (X : Task → M Value) (L : LoopI) (x : ((Option Addr × Nat × Nat)) × (Int) × (Int) × Unit) (b1_ : Nat) (v4_ : Int) (v7_ : Int) (v10_ : Int) (go18_ : ((Int) × (Int) × (Int) × Unit) → M (Value)) : M (Value) :=
 M.callS (.one (.cell (.int .i64))) (X (.call 171 [(.slice x.1.1 x.1.2.1 x.1.2.2), (.int .i64 v4_), (.pointer (some (Addr.mk b1_ 0 none)))])) fun (r21_ : Int) =>
 M.callS (.one (.cell (.int .i64))) (X (.call 171 [(.slice x.1.1 x.1.2.1 x.1.2.2), (.int .i64 v7_), (.pointer (some (Addr.mk b1_ 0 none)))])) fun (r22_ : Int) =>
 M.callS (.one (.cell (.int .i64))) (X (.call 171 [(.slice x.1.1 x.1.2.1 x.1.2.2), (.int .i64 v10_), (.pointer (some (Addr.mk b1_ 0 none)))])) fun (r23_ : Int) =>
 go18_ (r21_, r22_, r23_, ())
def f149c1 (X : Task → M Value) (L : LoopI) (x : ((Option Addr × Nat × Nat)) × (Int) × (Int) × Unit) (v0_ : Int) (b1_ : Nat) (v4_ : Int) (v7_ : Int) (v10_ : Int) : M (Value) :=
 M.join (fun (j11_ : (Int) × Unit) =>
 M.load (.cell (.int .i64)) 1 (Addr.mk b1_ 0 none) fun (x13_ : Int) =>
 M.ite (x13_ == 0)
 (M.pure (.tuple ⟨[(.int .i64 j11_.1), (.int .i64 1)]⟩))
 (M.ite (x13_ == 12)
 (M.pure (.tuple ⟨[(.int .i64 j11_.1), (.int .i64 2)]⟩))
 (M.pure (.tuple ⟨[(.int .i64 j11_.1), (.int .i64 0)]⟩)))) fun go12_ =>
 M.ite (decide (v0_ ≥ 8))
 (M.join (fun (j17_ : (Int) × (Int) × (Int) × Unit) =>
 M.callS (.one (.cell (.int .i64))) (X (.call 172 [(.slice x.1.1 x.1.2.1 x.1.2.2), (.int .i64 j17_.1), (.int .i64 j17_.2.1), (.int .i64 j17_.2.2.1), (.pointer (some (Addr.mk b1_ 0 none)))])) fun (r19_ : Int) =>
 go12_ (r19_, ())) fun go18_ =>
 M.ite (decide (v0_ ≥ 50))
 (f149c0 X L x b1_ v4_ v7_ v10_ go18_)
 (go18_ (v4_, v7_, v10_, ())))
 (go12_ (v7_, ()))
def f149c2 (X : Task → M Value) (L : LoopI) (x : ((Option Addr × Nat × Nat)) × (Int) × (Int) × Unit) : M (Value) :=
 let v0_ : Int := IntKind.i64.wrap (x.2.2.1 - x.2.1)
 M.new (.cells (Row.ofList [(.int .i64 0)]) 3 false (0, 0) false) fun b1_ =>
 M.guard (!(decide (4 = 0)))
 (M.guard (!(decide (4 = 0)))
 (M.guard (!(decide (4 = 0)))
 (f149c1 X L x v0_ b1_ (IntKind.i64.wrap (x.2.1 + (IntKind.i64.wrap ((IntKind.i64.wrap ((v0_ : Int).tdiv 4)) * 1)))) (IntKind.i64.wrap (x.2.1 + (IntKind.i64.wrap ((IntKind.i64.wrap ((v0_ : Int).tdiv 4)) * 2)))) (IntKind.i64.wrap (x.2.1 + (IntKind.i64.wrap ((IntKind.i64.wrap ((v0_ : Int).tdiv 4)) * 3)))))))
def f149 (X : Task → M Value) (L : LoopI) (x : ((Option Addr × Nat × Nat)) × (Int) × (Int) × Unit) : M Value :=
 f149c2 X L x

theorem e149 (X : Task → M Value) (L : LoopI) (x : ((Option Addr × Nat × Nat)) × (Int) × (Int) × Unit) : evBody CC { call := X, loop := L } 149 (shsInj [(.cell .slice), (.cell (.int .i64)), (.cell (.int .i64))] x) = f149 X L x := by kernel_rfl

/-- slices.reverseRangeOrdered[int] -/
def f150c0 (X : Task → M Value) (L : LoopI) (x : ((Option Addr × Nat × Nat)) × (Int) × (Int) × Unit) (s1_ : (Int) × (Int) × Unit) (x4_ : Int) : M (((Int) × (Int) × Unit) ⊕ ((Unit) ⊕ (Unit))) :=
 M.guard (decide (0 ≤ s1_.1) && decide (s1_.1 < ((x.1.2.1 : Nat) : Int)))
 (M.deref x.1.1 fun a5_ =>
 M.load (.cell (.int .i64)) 1 (a5_.add ((Int.toNat s1_.1) * 1)) fun (x6_ : Int) =>
 M.guard (decide (0 ≤ s1_.1) && decide (s1_.1 < ((x.1.2.1 : Nat) : Int)))
 (M.deref x.1.1 fun a7_ =>
 M.store (a7_.add ((Int.toNat s1_.1) * 1)) [(.int .i64 x4_)]
 (M.guard (decide (0 ≤ s1_.2.1) && decide (s1_.2.1 < ((x.1.2.1 : Nat) : Int)))
 (M.deref x.1.1 fun a8_ =>
 M.store (a8_.add ((Int.toNat s1_.2.1) * 1)) [(.int .i64 x6_)]
 (M.pure (.inl ((IntKind.i64.wrap (s1_.1 + 1)), (IntKind.i64.wrap (s1_.2.1 - 1)), ())))))))
def f150 (X : Task → M Value) (L : LoopI) (x : ((Option Addr × Nat × Nat)) × (Int) × (Int) × Unit) : M Value :=
 M.bind (L (σ := (Int) × (Int) × Unit) (ρ := (Unit) ⊕ (Unit)) (fun s1_ =>
 M.ite (decide (s1_.1 < s1_.2.1))
 (M.guard (decide (0 ≤ s1_.2.1) && decide (s1_.2.1 < ((x.1.2.1 : Nat) : Int)))
 (M.deref x.1.1 fun a3_ =>
 M.load (.cell (.int .i64)) 1 (a3_.add ((Int.toNat s1_.2.1) * 1)) fun (x4_ : Int) =>
 f150c0 X L x s1_ x4_))
 (M.pure (.inr (.inl (()))))) (x.2.1, (IntKind.i64.wrap (x.2.2.1 - 1)), ())) <| M.sum (fun (j11_ : Unit) =>
 M.pure (.tuple ⟨[]⟩)) (fun _ => M.stuck)

theorem e150 (X : Task → M Value) (L : LoopI) (x : ((Option Addr × Nat × Nat)) × (Int) × (Int) × Unit) : evBody CC { call := X, loop := L } 150 (shsInj [(.cell .slice), (.cell (.int .i64)), (.cell (.int .i64))] x) = f150 X L x := by kernel_rfl

/-- slices.partialInsertionSortOrdered[int] -/
def f151c0 (X : Task → M Value) (L : LoopI) (x : ((Option Addr × Nat × Nat)) × (Int) × (Int) × Unit) (s6_ : (Int) × Unit) (go8_ : ((Bool) × Unit) → M (((Int) × Unit) ⊕ (((Int) × Unit) ⊕ (Unit)))) : M (((Int) × Unit) ⊕ (((Int) × Unit) ⊕ (Unit))) :=
 M.guard (decide (0 ≤ s6_.1) && decide (s6_.1 < ((x.1.2.1 : Nat) : Int)))
 (M.deref x.1.1 fun a11_ =>
 M.load (.cell (.int .i64)) 1 (a11_.add ((Int.toNat s6_.1) * 1)) fun (x12_ : Int) =>
 let v13_ : Int := IntKind.i64.wrap (s6_.1 - 1)
 M.guard (decide (0 ≤ v13_) && decide (v13_ < ((x.1.2.1 : Nat) : Int)))
 (M.deref x.1.1 fun a14_ =>
 M.load (.cell (.int .i64)) 1 (a14_.add ((Int.toNat v13_) * 1)) fun (x15_ : Int) =>
 M.callS (.one (.cell .bool)) (X (.call 152 [(.int .i64 x12_), (.int .i64 x15_)])) fun (r16_ : Bool) =>
 go8_ ((!r16_), ())))
def f151c1 (X : Task → M Value) (L : LoopI) (x : ((Option Addr × Nat × Nat)) × (Int) × (Int) × Unit) (s35_ : (Int) × Unit) (v44_ : Int) (x47_ : Int) : M (((Int) × Unit) ⊕ ((Unit) ⊕ (Unit))) :=
 M.guard (decide (0 ≤ s35_.1) && decide (s35_.1 < ((x.1.2.1 : Nat) : Int)))
 (M.deref x.1.1 fun a48_ =>
 M.load (.cell (.int .i64)) 1 (a48_.add ((Int.toNat s35_.1) * 1)) fun (x49_ : Int) =>
 M.guard (decide (0 ≤ s35_.1) && decide (s35_.1 < ((x.1.2.1 : Nat) : Int)))
 (M.deref x.1.1 fun a50_ =>
 M.store (a50_.add ((Int.toNat s35_.1) * 1)) [(.int .i64 x47_)]
 (M.guard (decide (0 ≤ v44_) && decide (v44_ < ((x.1.2.1 : Nat) : Int)))
 (M.deref x.1.1 fun a51_ =>
 M.store (a51_.add ((Int.toNat v44_) * 1)) [(.int .i64 x49_)]
 (M.pure (.inl ((IntKind.i64.wrap (s35_.1 + 1)), ())))))))
def f151c2 (X : Task → M Value) (L : LoopI) (x : ((Option Addr × Nat × Nat)) × (Int) × (Int) × Unit) (s35_ : (Int) × Unit) (x38_ : Int) (v39_ : Int) (a40_ : Addr) : M (((Int) × Unit) ⊕ ((Unit) ⊕ (Unit))) :=
 M.load (.cell (.int .i64)) 1 (a40_.add ((Int.toNat v39_) * 1)) fun (x41_ : Int) =>
 M.callS (.one (.cell .bool)) (X (.call 152 [(.int .i64 x38_), (.int .i64 x41_)])) fun (r42_ : Bool) =>
 M.ite (!r42_)
 (M.pure (.inr (.inl (()))))
 (let v45_ : Int := IntKind.i64.wrap (s35_.1 - 1)
 M.guard (decide (0 ≤ v45_) && decide (v45_ < ((x.1.2.1 : Nat) : Int)))
 (M.deref x.1.1 fun a46_ =>
 M.load (.cell (.int .i64)) 1 (a46_.add ((Int.toNat v45_) * 1)) fun (x47_ : Int) =>
 f151c1 X L x s35_ (IntKind.i64.wrap (s35_.1 - 1)) x47_))
def f151c3 (X : Task → M Value) (L : LoopI) (x : ((Option Addr × Nat × Nat)) × (Int) × (Int) × Unit) (go4_ : ((Int) × Unit) → M (((Int) × (Int) × Unit) ⊕ ((Unit) ⊕ (((Bool) × Unit) ⊕ (Unit))))) (j18_ : (Int) × Unit) (v34_ : Int) : M (((Int) × (Int) × Unit) ⊕ ((Unit) ⊕ (((Bool) × Unit) ⊕ (Unit)))) :=
 M.bind (L (σ := (Int) × Unit) (ρ := (Unit) ⊕ (Unit)) (fun s35_ =>
 M.ite (decide (s35_.1 < x.2.2.1))
 (M.guard (decide (0 ≤ s35_.1) && decide (s35_.1 < ((x.1.2.1 : Nat) : Int)))
 (M.deref x.1.1 fun a37_ =>
 M.load (.cell (.int .i64)) 1 (a37_.add ((Int.toNat s35_.1) * 1)) fun (x38_ : Int) =>
 let v39_ : Int := IntKind.i64.wrap (s35_.1 - 1)
 M.guard (decide (0 ≤ v39_) && decide (v39_ < ((x.1.2.1 : Nat) : Int)))
 (M.deref x.1.1 fun a40_ =>
 f151c2 X L x s35_ x38_ v39_ a40_)))
 (M.pure (.inr (.inl (()))))) (v34_, ())) <| M.sum (fun (j53_ : Unit) =>
 go4_ (j18_.1, ())) (fun _ => M.stuck)
def f151c4 (X : Task → M Value) (L : LoopI) (x : ((Option Addr × Nat × Nat)) × (Int) × (Int) × Unit) (s57_ : (Int) × Unit) (v66_ : Int) (x69_ : Int) : M (((Int) × Unit) ⊕ ((Unit) ⊕ (Unit))) :=
 M.guard (decide (0 ≤ s57_.1) && decide (s57_.1 < ((x.1.2.1 : Nat) : Int)))
 (M.deref x.1.1 fun a70_ =>
 M.load (.cell (.int .i64)) 1 (a70_.add ((Int.toNat s57_.1) * 1)) fun (x71_ : Int) =>
 M.guard (decide (0 ≤ s57_.1) && decide (s57_.1 < ((x.1.2.1 : Nat) : Int)))
 (M.deref x.1.1 fun a72_ =>
 M.store (a72_.add ((Int.toNat s57_.1) * 1)) [(.int .i64 x69_)]
 (M.guard (decide (0 ≤ v66_) && decide (v66_ < ((x.1.2.1 : Nat) : Int)))
 (M.deref x.1.1 fun a73_ =>
 M.store (a73_.add ((Int.toNat v66_) * 1)) [(.int .i64 x71_)]
 (M.pure (.inl ((IntKind.i64.wrap (s57_.1 - 1)), ())))))))
def f151c5 (X : Task → M Value) (L : LoopI) (x : ((Option Addr × Nat × Nat)) × (Int) × (Int) × Unit) (s57_ : (Int) × Unit) (x60_ : Int) (v61_ : Int) (a62_ : Addr) : M (((Int) × Unit) ⊕ ((Unit) ⊕ (Unit))) :=
 M.load (.cell (.int .i64)) 1 (a62_.add ((Int.toNat v61_) * 1)) fun (x63_ : Int) =>
 M.callS (.one (.cell .bool)) (X (.call 152 [(.int .i64 x60_), (.int .i64 x63_)])) fun (r64_ : Bool) =>
 M.ite (!r64_)
 (M.pure (.inr (.inl (()))))
 (let v67_ : Int := IntKind.i64.wrap (s57_.1 - 1)
 M.guard (decide (0 ≤ v67_) && decide (v67_ < ((x.1.2.1 : Nat) : Int)))
 (M.deref x.1.1 fun a68_ =>
 M.load (.cell (.int .i64)) 1 (a68_.add ((Int.toNat v67_) * 1)) fun (x69_ : Int) =>
 f151c4 X L x s57_ (IntKind.i64.wrap (s57_.1 - 1)) x69_))
def f151c6 (X : Task → M Value) (L : LoopI) (x : ((Option Addr × Nat × Nat)) × (Int) × (Int) × Unit) (go31_ : (Unit) → M (((Int) × (Int) × Unit) ⊕ ((Unit) ⊕ (((Bool) × Unit) ⊕ (Unit))))) (v56_ : Int) : M (((Int) × (Int) × Unit) ⊕ ((Unit) ⊕ (((Bool) × Unit) ⊕ (Unit)))) :=
 M.bind (L (σ := (Int) × Unit) (ρ := (Unit) ⊕ (Unit)) (fun s57_ =>
 M.ite (decide (s57_.1 ≥ 1))
 (M.guard (decide (0 ≤ s57_.1) && decide (s57_.1 < ((x.1.2.1 : Nat) : Int)))
 (M.deref x.1.1 fun a59_ =>
 M.load (.cell (.int .i64)) 1 (a59_.add ((Int.toNat s57_.1) * 1)) fun (x60_ : Int) =>
 let v61_ : Int := IntKind.i64.wrap (s57_.1 - 1)
 M.guard (decide (0 ≤ v61_) && decide (v61_ < ((x.1.2.1 : Nat) : Int)))
 (M.deref x.1.1 fun a62_ =>
 f151c5 X L x s57_ x60_ v61_ a62_)))
 (M.pure (.inr (.inl (()))))) (v56_, ())) <| M.sum (fun (j75_ : Unit) =>
 go31_ (())) (fun _ => M.stuck)
def f151c7 (X : Task → M Value) (L : LoopI) (x : ((Option Addr × Nat × Nat)) × (Int) × (Int) × Unit) (go4_ : ((Int) × Unit) → M (((Int) × (Int) × Unit) ⊕ ((Unit) ⊕ (((Bool) × Unit) ⊕ (Unit))))) (j18_ : (Int) × Unit) (v22_ : Int) (x25_ : Int) (x27_ : Int) (a28_ : Addr) : M (((Int) × (Int) × Unit) ⊕ ((Unit) ⊕ (((Bool) × Unit) ⊕ (Unit)))) :=
 M.store (a28_.add ((Int.toNat j18_.1) * 1)) [(.int .i64 x25_)]
 (M.guard (decide (0 ≤ v22_) && decide (v22_ < ((x.1.2.1 : Nat) : Int)))
 (M.deref x.1.1 fun a29_ =>
 M.store (a29_.add ((Int.toNat v22_) * 1)) [(.int .i64 x27_)]
 (M.join (fun (j30_ : Unit) =>
 M.ite (decide ((IntKind.i64.wrap (x.2.2.1 - j18_.1)) ≥ 2))
 (f151c3 X L x go4_ j18_ (IntKind.i64.wrap (j18_.1 + 1)))
 (go4_ (j18_.1, ()))) fun go31_ =>
 M.ite (decide ((IntKind.i64.wrap (j18_.1 - x.2.1)) ≥ 2))
 (f151c6 X L x go31_ (IntKind.i64.wrap (j18_.1 - 1)))
 (go31_ (())))))
def f151c8 (X : Task → M Value) (L : LoopI) (x : ((Option Addr × Nat × Nat)) × (Int) × (Int) × Unit) (go4_ : ((Int) × Unit) → M (((Int) × (Int) × Unit) ⊕ ((Unit) ⊕ (((Bool) × Unit) ⊕ (Unit))))) (j18_ : (Int) × Unit) (v22_ : Int) (v23_ : Int) : M (((Int) × (Int) × Unit) ⊕ ((Unit) ⊕ (((Bool) × Unit) ⊕ (Unit)))) :=
 M.guard (decide (0 ≤ v23_) && decide (v23_ < ((x.1.2.1 : Nat) : Int)))
 (M.deref x.1.1 fun a24_ =>
 M.load (.cell (.int .i64)) 1 (a24_.add ((Int.toNat v23_) * 1)) fun (x25_ : Int) =>
 M.guard (decide (0 ≤ j18_.1) && decide (j18_.1 < ((x.1.2.1 : Nat) : Int)))
 (M.deref x.1.1 fun a26_ =>
 M.load (.cell (.int .i64)) 1 (a26_.add ((Int.toNat j18_.1) * 1)) fun (x27_ : Int) =>
 M.guard (decide (0 ≤ j18_.1) && decide (j18_.1 < ((x.1.2.1 : Nat) : Int)))
 (M.deref x.1.1 fun a28_ =>
 f151c7 X L x go4_ j18_ v22_ x25_ x27_ a28_)))
def f151c9 (X : Task → M Value) (L : LoopI) (x : ((Option Addr × Nat × Nat)) × (Int) × (Int) × Unit) (s1_ : (Int) × (Int) × Unit) (go4_ : ((Int) × Unit) → M (((Int) × (Int) × Unit) ⊕ ((Unit) ⊕ (((Bool) × Unit) ⊕ (Unit))))) : M (((Int) × (Int) × Unit) ⊕ ((Unit) ⊕ (((Bool) × Unit) ⊕ (Unit)))) :=
 M.bind (L (σ := (Int) × Unit) (ρ := ((Int) × Unit) ⊕ (Unit)) (fun s6_ =>
 M.join (fun (j7_ : (Bool) × Unit) =>
 M.ite j7_.1
 (M.pure (.inl ((IntKind.i64.wrap (s6_.1 + 1)), ())))
 (M.pure (.inr (.inl (s6_.1, ()))))) fun go8_ =>
 M.ite (decide (s6_.1 < x.2.2.1))
 (f151c0 X L x s6_ go8_)
 (go8_ (false, ()))) (s1_.1, ())) <| M.sum (fun (j18_ : (Int) × Unit) =>
 M.ite (j18_.1 == x.2.2.1)
 (M.pure (.inr (.inr (.inl (true, ())))))
 (M.ite (decide ((IntKind.i64.wrap (x.2.2.1 - x.2.1)) < 50))
 (M.pure (.inr (.inr (.inl (false, ())))))
 (f151c8 X L x go4_ j18_ (IntKind.i64.wrap (j18_.1 - 1)) (IntKind.i64.wrap (j18_.1 - 1))))) (fun _ => M.stuck)
def f151 (X : Task → M Value) (L : LoopI) (x : ((Option Addr × Nat × Nat)) × (Int) × (Int) × Unit) : M Value :=
 M.bind (L (σ := (Int) × (Int) × Unit) (ρ := (Unit) ⊕ (((Bool) × Unit) ⊕ (Unit))) (fun s1_ =>
 M.ite (decide (s1_.2.1 < 5))
 (M.join (fun (j3_ : (Int) × Unit) =>
 M.pure (.inl (j3_.1, (IntKind.i64.wrap (s1_.2.1 + 1)), ()))) fun go4_ =>
 f151c9 X L x s1_ go4_)
 (M.pure (.inr (.inl (()))))) ((IntKind.i64.wrap (x.2.1 + 1)), 0, ())) <| M.sum (fun (j76_ : Unit) =>
 M.pure (.bool false)) (M.sum (fun (j77_ : (Bool) × Unit) =>
 M.pure (.bool j77_.1)) (fun _ => M.stuck))

theorem e151 (X : Task → M Value) (L : LoopI) (x : ((Option Addr × Nat × Nat)) × (Int) × (Int) × Unit) : evBody CC { call := X, loop := L } 151 (shsInj [(.cell .slice), (.cell (.int .i64)), (.cell (.int .i64))] x) = f151 X L x := by kernel_rfl

/-- cmp.Less[int] -/
def f152 (X : Task → M Value) (L : LoopI) (x : (Int) × (Int) × Unit) : M Value :=
 M.join (fun (j0_ : (Bool) × Unit) =>
 M.pure (.bool j0_.1)) fun go1_ =>
 M.callS (.one (.cell .bool)) (X (.call 173 [(.int .i64 x.1)])) fun (r2_ : Bool) =>
 M.ite r2_
 (M.callS (.one (.cell .bool)) (X (.call 173 [(.int .i64 x.2.1)])) fun (r3_ : Bool) =>
 M.ite (!r3_)
 (go1_ (true, ()))
 (go1_ ((decide (x.1 < x.2.1)), ())))
 (go1_ ((decide (x.1 < x.2.1)), ()))

theorem e152 (X : Task → M Value) (L : LoopI) (x : (Int) × (Int) × Unit) : evBody CC { call := X, loop := L } 152 (shsInj [(.cell (.int .i64)), (.cell (.int .i64))] x) = f152 X L x := by kernel_rfl

/-- slices.partitionEqualOrdered[int] -/
def f153c0 (X : Task → M Value) (L : LoopI) (x : ((Option Addr × Nat × Nat)) × (Int) × (Int) × (Int) × Unit) (s9_ : (Int) × Unit) (go11_ : ((Bool) × Unit) → M (((Int) × Unit) ⊕ (((Int) × Unit) ⊕ (Unit)))) (v13_ : Bool) : M (((Int) × Unit) ⊕ (((Int) × Unit) ⊕ (Unit))) :=
 M.ite v13_
 (M.guard (decide (0 ≤ x.2.1) && decide (x.2.1 < ((x.1.2.1 : Nat) : Int)))
 (M.deref x.1.1 fun a14_ =>
 M.load (.cell (.int .i64)) 1 (a14_.add ((Int.toNat x.2.1) * 1)) fun (x15_ : Int) =>
 M.guard (decide (0 ≤ s9_.1) && decide (s9_.1 < ((x.1.2.1 : Nat) : Int)))
 (M.deref x.1.1 fun a16_ =>
 M.load (.cell (.int .i64)) 1 (a16_.add ((Int.toNat s9_.1) * 1)) fun (x17_ : Int) =>
 M.callS (.one (.cell .bool)) (X (.call 152 [(.int .i64 x15_), (.int .i64 x17_)])) fun (r18_ : Bool) =>
 go11_ ((!r18_), ()))))
 (go11_ (false, ()))
def f153c1 (X : Task → M Value) (L : LoopI) (x : ((Option Addr × Nat × Nat)) × (Int) × (Int) × (Int) × Unit) (s21_ : (Int) × Unit) (go23_ : ((Bool) × Unit) → M (((Int) × Unit) ⊕ (((Int) × Unit) ⊕ (Unit)))) (v25_ : Bool) : M (((Int) × Unit) ⊕ (((Int) × Unit) ⊕ (Unit))) :=
 M.ite v25_
 (M.guard (decide (0 ≤ x.2.1) && decide (x.2.1 < ((x.1.2.1 : Nat) : Int)))
 (M.deref x.1.1 fun a26_ =>
 M.load (.cell (.int .i64)) 1 (a26_.add ((Int.toNat x.2.1) * 1)) fun (x27_ : Int) =>
 M.guard (decide (0 ≤ s21_.1) && decide (s21_.1 < ((x.1.2.1 : Nat) : Int)))
 (M.deref x.1.1 fun a28_ =>
 M.load (.cell (.int .i64)) 1 (a28_.add ((Int.toNat s21_.1) * 1)) fun (x29_ : Int) =>
 M.callS (.one (.cell .bool)) (X (.call 152 [(.int .i64 x27_), (.int .i64 x29_)])) fun (r30_ : Bool) =>
 go23_ (r30_, ()))))
 (go23_ (false, ()))
def f153c2 (X : Task → M Value) (L : LoopI) (x : ((Option Addr × Nat × Nat)) × (Int) × (Int) × (Int) × Unit) (j20_ : (Int) × Unit) (j31_ : (Int) × Unit) (x34_ : Int) (a35_ : Addr) : M (((Int) × (Int) × Unit) ⊕ (((Int) × Unit) ⊕ (Unit))) :=
 M.load (.cell (.int .i64)) 1 (a35_.add ((Int.toNat j20_.1) * 1)) fun (x36_ : Int) =>
 M.guard (decide (0 ≤ j20_.1) && decide (j20_.1 < ((x.1.2.1 : Nat) : Int)))
 (M.deref x.1.1 fun a37_ =>
 M.store (a37_.add ((Int.toNat j20_.1) * 1)) [(.int .i64 x34_)]
 (M.guard (decide (0 ≤ j31_.1) && decide (j31_.1 < ((x.1.2.1 : Nat) : Int)))
 (M.deref x.1.1 fun a38_ =>
 M.store (a38_.add ((Int.toNat j31_.1) * 1)) [(.int .i64 x36_)]
 (M.pure (.inl ((IntKind.i64.wrap (j20_.1 + 1)), (IntKind.i64.wrap (j31_.1 - 1)), ()))))))
def f153c3 (X : Task → M Value) (L : LoopI) (x : ((Option Addr × Nat × Nat)) × (Int) × (Int) × (Int) × Unit) (s8_ : (Int) × (Int) × Unit) (j20_ : (Int) × Unit) : M (((Int) × (Int) × Unit) ⊕ (((Int) × Unit) ⊕ (Unit))) :=
 M.bind (L (σ := (Int) × Unit) (ρ := ((Int) × Unit) ⊕ (Unit)) (fun s21_ =>
 M.join (fun (j22_ : (Bool) × Unit) =>
 M.ite j22_.1
 (M.pure (.inl ((IntKind.i64.wrap (s21_.1 - 1)), ())))
 (M.pure (.inr (.inl (s21_.1, ()))))) fun go23_ =>
 f153c1 X L x s21_ go23_ (decide (j20_.1 ≤ s21_.1))) (s8_.2.1, ())) <| M.sum (fun (j31_ : (Int) × Unit) =>
 M.ite (decide (j20_.1 > j31_.1))
 (M.pure (.inr (.inl (j20_.1, ()))))
 (M.guard (decide (0 ≤ j31_.1) && decide (j31_.1 < ((x.1.2.1 : Nat) : Int)))
 (M.deref x.1.1 fun a33_ =>
 M.load (.cell (.int .i64)) 1 (a33_.add ((Int.toNat j31_.1) * 1)) fun (x34_ : Int) =>
 M.guard (decide (0 ≤ j20_.1) && decide (j20_.1 < ((x.1.2.1 : Nat) : Int)))
 (M.deref x.1.1 fun a35_ =>
 f153c2 X L x j20_ j31_ x34_ a35_)))) (fun _ => M.stuck)
def f153c4 (X : Task → M Value) (L : LoopI) (x : ((Option Addr × Nat × Nat)) × (Int) × (Int) × (Int) × Unit) (v6_ : Int) (v7_ : Int) : M (Value) :=
 M.bind (L (σ := (Int) × (Int) × Unit) (ρ := ((Int) × Unit) ⊕ (Unit)) (fun s8_ =>
 M.bind (L (σ := (Int) × Unit) (ρ := ((Int) × Unit) ⊕ (Unit)) (fun s9_ =>
 M.join (fun (j10_ : (Bool) × Unit) =>
 M.ite j10_.1
 (M.pure (.inl ((IntKind.i64.wrap (s9_.1 + 1)), ())))
 (M.pure (.inr (.inl (s9_.1, ()))))) fun go11_ =>
 f153c0 X L x s9_ go11_ (decide (s9_.1 ≤ s8_.2.1))) (s8_.1, ())) <| M.sum (fun (j20_ : (Int) × Unit) =>
 f153c3 X L x s8_ j20_) (fun _ => M.stuck)) (v6_, v7_, ())) <| M.sum (fun (j41_ : (Int) × Unit) =>
 M.pure (.int .i64 j41_.1)) (fun _ => M.stuck)
def f153c5 (X : Task → M Value) (L : LoopI) (x : ((Option Addr × Nat × Nat)) × (Int) × (Int) × (Int) × Unit) (x1_ : Int) : M (Value) :=
 M.guard (decide (0 ≤ x.2.1) && decide (x.2.1 < ((x.1.2.1 : Nat) : Int)))
 (M.deref x.1.1 fun a2_ =>
 M.load (.cell (.int .i64)) 1 (a2_.add ((Int.toNat x.2.1) * 1)) fun (x3_ : Int) =>
 M.guard (decide (0 ≤ x.2.1) && decide (x.2.1 < ((x.1.2.1 : Nat) : Int)))
 (M.deref x.1.1 fun a4_ =>
 M.store (a4_.add ((Int.toNat x.2.1) * 1)) [(.int .i64 x1_)]
 (M.guard (decide (0 ≤ x.2.2.2.1) && decide (x.2.2.2.1 < ((x.1.2.1 : Nat) : Int)))
 (M.deref x.1.1 fun a5_ =>
 M.store (a5_.add ((Int.toNat x.2.2.2.1) * 1)) [(.int .i64 x3_)]
 (f153c4 X L x (IntKind.i64.wrap (x.2.1 + 1)) (IntKind.i64.wrap (x.2.2.1 - 1)))))))
def f153 (X : Task → M Value) (L : LoopI) (x : ((Option Addr × Nat × Nat)) × (Int) × (Int) × (Int) × Unit) : M Value :=
 M.guard (decide (0 ≤ x.2.2.2.1) && decide (x.2.2.2.1 < ((x.1.2.1 : Nat) : Int)))
 (M.deref x.1.1 fun a0_ =>
 M.load (.cell (.int .i64)) 1 (a0_.add ((Int.toNat x.2.2.2.1) * 1)) fun (x1_ : Int) =>
 f153c5 X L x x1_)

theorem e153 (X : Task → M Value) (L : LoopI) (x : ((Option Addr × Nat × Nat)) × (Int) × (Int) × (Int) × Unit) : evBody CC { call := X, loop := L } 153 (shsInj [(.cell .slice), (.cell (.int .i64)), (.cell (.int .i64)), (.cell (.int .i64))] x) = f153 X L x := by kernel_rfl

/-- slices.partitionOrdered[int] -/
def f154c0 (X : Task → M Value) (L : LoopI) (x : ((Option Addr × Nat × Nat)) × (Int) × (Int) × (Int) × Unit) (s8_ : (Int) × Unit) (go10_ : ((Bool) × Unit) → M (((Int) × Unit) ⊕ (((Int) × Unit) ⊕ (Unit)))) (v12_ : Bool) : M (((Int) × Unit) ⊕ (((Int) × Unit) ⊕ (Unit))) :=
 M.ite v12_
 (M.guard (decide (0 ≤ s8_.1) && decide (s8_.1 < ((x.1.2.1 : Nat) : Int)))
 (M.deref x.1.1 fun a13_ =>
 M.load (.cell (.int .i64)) 1 (a13_.add ((Int.toNat s8_.1) * 1)) fun (x14_ : Int) =>
 M.guard (decide (0 ≤ x.2.1) && decide (x.2.1 < ((x.1.2.1 : Nat) : Int)))
 (M.deref x.1.1 fun a15_ =>
 M.load (.cell (.int .i64)) 1 (a15_.add ((Int.toNat x.2.1) * 1)) fun (x16_ : Int) =>
 M.callS (.one (.cell .bool)) (X (.call 152 [(.int .i64 x14_), (.int .i64 x16_)])) fun (r17_ : Bool) =>
 go10_ (r17_, ()))))
 (go10_ (false, ()))
def f154c1 (X : Task → M Value) (L : LoopI) (x : ((Option Addr × Nat × Nat)) × (Int) × (Int) × (Int) × Unit) (s19_ : (Int) × Unit) (go21_ : ((Bool) × Unit) → M (((Int) × Unit) ⊕ (((Int) × Unit) ⊕ (Unit)))) (v23_ : Bool) : M (((Int) × Unit) ⊕ (((Int) × Unit) ⊕ (Unit))) :=
 M.ite v23_
 (M.guard (decide (0 ≤ s19_.1) && decide (s19_.1 < ((x.1.2.1 : Nat) : Int)))
 (M.deref x.1.1 fun a24_ =>
 M.load (.cell (.int .i64)) 1 (a24_.add ((Int.toNat s19_.1) * 1)) fun (x25_ : Int) =>
 M.guard (decide (0 ≤ x.2.1) && decide (x.2.1 < ((x.1.2.1 : Nat) : Int)))
 (M.deref x.1.1 fun a26_ =>
 M.load (.cell (.int .i64)) 1 (a26_.add ((Int.toNat x.2.1) * 1)) fun (x27_ : Int) =>
 M.callS (.one (.cell .bool)) (X (.call 152 [(.int .i64 x25_), (.int .i64 x27_)])) fun (r28_ : Bool) =>
 go21_ ((!r28_), ()))))
 (go21_ (false, ()))
def f154c2 (X : Task → M Value) (L : LoopI) (x : ((Option Addr × Nat × Nat)) × (Int) × (Int) × (Int) × Unit) (j30_ : (Int) × Unit) (x33_ : Int) : M (Value) :=
 M.guard (decide (0 ≤ j30_.1) && decide (j30_.1 < ((x.1.2.1 : Nat) : Int)))
 (M.deref x.1.1 fun a34_ =>
 M.load (.cell (.int .i64)) 1 (a34_.add ((Int.toNat j30_.1) * 1)) fun (x35_ : Int) =>
 M.guard (decide (0 ≤ j30_.1) && decide (j30_.1 < ((x.1.2.1 : Nat) : Int)))
 (M.deref x.1.1 fun a36_ =>
 M.store (a36_.add ((Int.toNat j30_.1) * 1)) [(.int .i64 x33_)]
 (M.guard (decide (0 ≤ x.2.1) && decide (x.2.1 < ((x.1.2.1 : Nat) : Int)))
 (M.deref x.1.1 fun a37_ =>
 M.store (a37_.add ((Int.toNat x.2.1) * 1)) [(.int .i64 x35_)]
 (M.pure (.tuple ⟨[(.int .i64 j30_.1), (.bool true)]⟩))))))
def f154c3 (X : Task → M Value) (L : LoopI) (x : ((Option Addr × Nat × Nat)) × (Int) × (Int) × (Int) × Unit) (s47_ : (Int) × Unit) (go49_ : ((Bool) × Unit) → M (((Int) × Unit) ⊕ (((Int) × Unit) ⊕ (Unit)))) (v51_ : Bool) : M (((Int) × Unit) ⊕ (((Int) × Unit) ⊕ (Unit))) :=
 M.ite v51_
 (M.guard (decide (0 ≤ s47_.1) && decide (s47_.1 < ((x.1.2.1 : Nat) : Int)))
 (M.deref x.1.1 fun a52_ =>
 M.load (.cell (.int .i64)) 1 (a52_.add ((Int.toNat s47_.1) * 1)) fun (x53_ : Int) =>
 M.guard (decide (0 ≤ x.2.1) && decide (x.2.1 < ((x.1.2.1 : Nat) : Int)))
 (M.deref x.1.1 fun a54_ =>
 M.load (.cell (.int .i64)) 1 (a54_.add ((Int.toNat x.2.1) * 1)) fun (x55_ : Int) =>
 M.callS (.one (.cell .bool)) (X (.call 152 [(.int .i64 x53_), (.int .i64 x55_)])) fun (r56_ : Bool) =>
 go49_ (r56_, ()))))
 (go49_ (false, ()))
def f154c4 (X : Task → M Value) (L : LoopI) (x : ((Option Addr × Nat × Nat)) × (Int) × (Int) × (Int) × Unit) (s58_ : (Int) × Unit) (go60_ : ((Bool) × Unit) → M (((Int) × Unit) ⊕ (((Int) × Unit) ⊕ (Unit)))) (v62_ : Bool) : M (((Int) × Unit) ⊕ (((Int) × Unit) ⊕ (Unit))) :=
 M.ite v62_
 (M.guard (decide (0 ≤ s58_.1) && decide (s58_.1 < ((x.1.2.1 : Nat) : Int)))
 (M.deref x.1.1 fun a63_ =>
 M.load (.cell (.int .i64)) 1 (a63_.add ((Int.toNat s58_.1) * 1)) fun (x64_ : Int) =>
 M.guard (decide (0 ≤ x.2.1) && decide (x.2.1 < ((x.1.2.1 : Nat) : Int)))
 (M.deref x.1.1 fun a65_ =>
 M.load (.cell (.int .i64)) 1 (a65_.add ((Int.toNat x.2.1) * 1)) fun (x66_ : Int) =>
 M.callS (.one (.cell .bool)) (X (.call 152 [(.int .i64 x64_), (.int .i64 x66_)])) fun (r67_ : Bool) =>
 go60_ ((!r67_), ()))))
 (go60_ (false, ()))
def f154c5 (X : Task → M Value) (L : LoopI) (x : ((Option Addr × Nat × Nat)) × (Int) × (Int) × (Int) × Unit) (j57_ : (Int) × Unit) (j69_ : (Int) × Unit) (x72_ : Int) (a73_ : Addr) : M (((Int) × (Int) × Unit) ⊕ (((Int) × Unit) ⊕ (Unit))) :=
 M.load (.cell (.int .i64)) 1 (a73_.add ((Int.toNat j57_.1) * 1)) fun (x74_ : Int) =>
 M.guard (decide (0 ≤ j57_.1) && decide (j57_.1 < ((x.1.2.1 : Nat) : Int)))
 (M.deref x.1.1 fun a75_ =>
 M.store (a75_.add ((Int.toNat j57_.1) * 1)) [(.int .i64 x72_)]
 (M.guard (decide (0 ≤ j69_.1) && decide (j69_.1 < ((x.1.2.1 : Nat) : Int)))
 (M.deref x.1.1 fun a76_ =>
 M.store (a76_.add ((Int.toNat j69_.1) * 1)) [(.int .i64 x74_)]
 (M.pure (.inl ((IntKind.i64.wrap (j57_.1 + 1)), (IntKind.i64.wrap (j69_.1 - 1)), ()))))))
def f154c6 (X : Task → M Value) (L : LoopI) (x : ((Option Addr × Nat × Nat)) × (Int) × (Int) × (Int) × Unit) (s46_ : (Int) × (Int) × Unit) (j57_ : (Int) × Unit) : M (((Int) × (Int) × Unit) ⊕ (((Int) × Unit) ⊕ (Unit))) :=
 M.bind (L (σ := (Int) × Unit) (ρ := ((Int) × Unit) ⊕ (Unit)) (fun s58_ =>
 M.join (fun (j59_ : (Bool) × Unit) =>
 M.ite j59_.1
 (M.pure (.inl ((IntKind.i64.wrap (s58_.1 - 1)), ())))
 (M.pure (.inr (.inl (s58_.1, ()))))) fun go60_ =>
 f154c4 X L x s58_ go60_ (decide (j57_.1 ≤ s58_.1))) (s46_.2.1, ())) <| M.sum (fun (j69_ : (Int) × Unit) =>
 M.ite (decide (j57_.1 > j69_.1))
 (M.pure (.inr (.inl (j69_.1, ()))))
 (M.guard (decide (0 ≤ j69_.1) && decide (j69_.1 < ((x.1.2.1 : Nat) : Int)))
 (M.deref x.1.1 fun a71_ =>
 M.load (.cell (.int .i64)) 1 (a71_.add ((Int.toNat j69_.1) * 1)) fun (x72_ : Int) =>
 M.guard (decide (0 ≤ j57_.1) && decide (j57_.1 < ((x.1.2.1 : Nat) : Int)))
 (M.deref x.1.1 fun a73_ =>
 f154c5 X L x j57_ j69_ x72_ a73_)))) (fun _ => M.stuck)
def f154c7 (X : Task → M Value) (L : LoopI) (x : ((Option Addr × Nat × Nat)) × (Int) × (Int) × (Int) × Unit) (j79_ : (Int) × Unit) (x81_ : Int) : M (Value) :=
 M.guard (decide (0 ≤ j79_.1) && decide (j79_.1 < ((x.1.2.1 : Nat) : Int)))
 (M.deref x.1.1 fun a82_ =>
 M.load (.cell (.int .i64)) 1 (a82_.add ((Int.toNat j79_.1) * 1)) fun (x83_ : Int) =>
 M.guard (decide (0 ≤ j79_.1) && decide (j79_.1 < ((x.1.2.1 : Nat) : Int)))
 (M.deref x.1.1 fun a84_ =>
 M.store (a84_.add ((Int.toNat j79_.1) * 1)) [(.int .i64 x81_)]
 (M.guard (decide (0 ≤ x.2.1) && decide (x.2.1 < ((x.1.2.1 : Nat) : Int)))
 (M.deref x.1.1 fun a85_ =>
 M.store (a85_.add ((Int.toNat x.2.1) * 1)) [(.int .i64 x83_)]
 (M.pure (.tuple ⟨[(.int .i64 j79_.1), (.bool false)]⟩))))))
def f154c8 (X : Task → M Value) (L : LoopI) (x : ((Option Addr × Nat × Nat)) × (Int) × (Int) × (Int) × Unit) (v44_ : Int) (v45_ : Int) : M (Value) :=
 M.bind (L (σ := (Int) × (Int) × Unit) (ρ := ((Int) × Unit) ⊕ (Unit)) (fun s46_ =>
 M.bind (L (σ := (Int) × Unit) (ρ := ((Int) × Unit) ⊕ (Unit)) (fun s47_ =>
 M.join (fun (j48_ : (Bool) × Unit) =>
 M.ite j48_.1
 (M.pure (.inl ((IntKind.i64.wrap (s47_.1 + 1)), ())))
 (M.pure (.inr (.inl (s47_.1, ()))))) fun go49_ =>
 f154c3 X L x s47_ go49_ (decide (s47_.1 ≤ s46_.2.1))) (s46_.1, ())) <| M.sum (fun (j57_ : (Int) × Unit) =>
 f154c6 X L x s46_ j57_) (fun _ => M.stuck)) (v44_, v45_, ())) <| M.sum (fun (j79_ : (Int) × Unit) =>
 M.guard (decide (0 ≤ x.2.1) && decide (x.2.1 < ((x.1.2.1 : Nat) : Int)))
 (M.deref x.1.1 fun a80_ =>
 M.load (.cell (.int .i64)) 1 (a80_.add ((Int.toNat x.2.1) * 1)) fun (x81_ : Int) =>
 f154c7 X L x j79_ x81_)) (fun _ => M.stuck)
def f154c9 (X : Task → M Value) (L : LoopI) (x : ((Option Addr × Nat × Nat)) × (Int) × (Int) × (Int) × Unit) (j18_ : (Int) × Unit) (j30_ : (Int) × Unit) (x39_ : Int) : M (Value) :=
 M.guard (decide (0 ≤ j18_.1) && decide (j18_.1 < ((x.1.2.1 : Nat) : Int)))
 (M.deref x.1.1 fun a40_ =>
 M.load (.cell (.int .i64)) 1 (a40_.add ((Int.toNat j18_.1) * 1)) fun (x41_ : Int) =>
 M.guard (decide (0 ≤ j18_.1) && decide (j18_.1 < ((x.1.2.1 : Nat) : Int)))
 (M.deref x.1.1 fun a42_ =>
 M.store (a42_.add ((Int.toNat j18_.1) * 1)) [(.int .i64 x39_)]
 (M.guard (decide (0 ≤ j30_.1) && decide (j30_.1 < ((x.1.2.1 : Nat) : Int)))
 (M.deref x.1.1 fun a43_ =>
 M.store (a43_.add ((Int.toNat j30_.1) * 1)) [(.int .i64 x41_)]
 (f154c8 X L x (IntKind.i64.wrap (j18_.1 + 1)) (IntKind.i64.wrap (j30_.1 - 1)))))))
def f154c10 (X : Task → M Value) (L : LoopI) (x : ((Option Addr × Nat × Nat)) × (Int) × (Int) × (Int) × Unit) (v7_ : Int) (j18_ : (Int) × Unit) : M (Value) :=
 M.bind (L (σ := (Int) × Unit) (ρ := ((Int) × Unit) ⊕ (Unit)) (fun s19_ =>
 M.join (fun (j20_ : (Bool) × Unit) =>
 M.ite j20_.1
 (M.pure (.inl ((IntKind.i64.wrap (s19_.1 - 1)), ())))
 (M.pure (.inr (.inl (s19_.1, ()))))) fun go21_ =>
 f154c1 X L x s19_ go21_ (decide (j18_.1 ≤ s19_.1))) (v7_, ())) <| M.sum (fun (j30_ : (Int) × Unit) =>
 M.ite (decide (j18_.1 > j30_.1))
 (M.guard (decide (0 ≤ x.2.1) && decide (x.2.1 < ((x.1.2.1 : Nat) : Int)))
 (M.deref x.1.1 fun a32_ =>
 M.load (.cell (.int .i64)) 1 (a32_.add ((Int.toNat x.2.1) * 1)) fun (x33_ : Int) =>
 f154c2 X L x j30_ x33_))
 (M.guard (decide (0 ≤ j30_.1) && decide (j30_.1 < ((x.1.2.1 : Nat) : Int)))
 (M.deref x.1.1 fun a38_ =>
 M.load (.cell (.int .i64)) 1 (a38_.add ((Int.toNat j30_.1) * 1)) fun (x39_ : Int) =>
 f154c9 X L x j18_ j30_ x39_))) (fun _ => M.stuck)
def f154c11 (X : Task → M Value) (L : LoopI) (x : ((Option Addr × Nat × Nat)) × (Int) × (Int) × (Int) × Unit) (x3_ : Int) (a5_ : Addr) : M (Value) :=
 M.store (a5_.add ((Int.toNat x.2.2.2.1) * 1)) [(.int .i64 x3_)]
 (let v7_ : Int := IntKind.i64.wrap (x.2.2.1 - 1)
 M.bind (L (σ := (Int) × Unit) (ρ := ((Int) × Unit) ⊕ (Unit)) (fun s8_ =>
 M.join (fun (j9_ : (Bool) × Unit) =>
 M.ite j9_.1
 (M.pure (.inl ((IntKind.i64.wrap (s8_.1 + 1)), ())))
 (M.pure (.inr (.inl (s8_.1, ()))))) fun go10_ =>
 f154c0 X L x s8_ go10_ (decide (s8_.1 ≤ v7_))) ((IntKind.i64.wrap (x.2.1 + 1)), ())) <| M.sum (fun (j18_ : (Int) × Unit) =>
 f154c10 X L x v7_ j18_) (fun _ => M.stuck))
def f154c12 (X : Task → M Value) (L : LoopI) (x : ((Option Addr × Nat × Nat)) × (Int) × (Int) × (Int) × Unit) (a0_ : Addr) : M (Value) :=
 M.load (.cell (.int .i64)) 1 (a0_.add ((Int.toNat x.2.2.2.1) * 1)) fun (x1_ : Int) =>
 M.guard (decide (0 ≤ x.2.1) && decide (x.2.1 < ((x.1.2.1 : Nat) : Int)))
 (M.deref x.1.1 fun a2_ =>
 M.load (.cell (.int .i64)) 1 (a2_.add ((Int.toNat x.2.1) * 1)) fun (x3_ : Int) =>
 M.guard (decide (0 ≤ x.2.1) && decide (x.2.1 < ((x.1.2.1 : Nat) : Int)))
 (M.deref x.1.1 fun a4_ =>
 M.store (a4_.add ((Int.toNat x.2.1) * 1)) [(.int .i64 x1_)]
 (M.guard (decide (0 ≤ x.2.2.2.1) && decide (x.2.2.2.1 < ((x.1.2.1 : Nat) : Int)))
 (M.deref x.1.1 fun a5_ =>
 f154c11 X L x x3_ a5_))))
def f154 (X : Task → M Value) (L : LoopI) (x : ((Option Addr × Nat × Nat)) × (Int) × (Int) × (Int) × Unit) : M Value :=
 M.guard (decide (0 ≤ x.2.2.2.1) && decide (x.2.2.2.1 < ((x.1.2.1 : Nat) : Int)))
 (M.deref x.1.1 fun a0_ =>
 f154c12 X L x a0_)

theorem e154 (X : Task → M Value) (L : LoopI) (x : ((Option Addr × Nat × Nat)) × (Int) × (Int) × (Int) × Unit) : evBody CC { call := X, loop := L } 154 (shsInj [(.cell .slice), (.cell (.int .i64)), (.cell (.int .i64)), (.cell (.int .i64))] x) = f154 X L x := by kernel_rfl

/-- math/bits.Len32 -/
def f155c0 (X : Task → M Value) (L : LoopI) (x : (Int) × Unit) : M (Value) :=
 M.join (fun (j0_ : (Int) × (Int) × Unit) =>
 M.join (fun (j2_ : (Int) × (Int) × Unit) =>
 let v4_ : Int := IntKind.u8.wrap j2_.1
 M.guard (decide (0 ≤ v4_) && decide (v4_ < (st5.size : Int)))
 (M.pure (.int .i64 (IntKind.i64.wrap (j2_.2.1 + (IntKind.i64.wrap (byteAt st5 v4_))))))) fun go3_ =>
 M.ite (decide (j0_.1 ≥ 256))
 (M.guard (decide (0 ≤ 8))
 (go3_ ((((j0_.1 : Int)).fdiv (2 ^ (min (Int.toNat 8) IntKind.u32.bits))), (IntKind.i64.wrap (j0_.2.1 + 8)), ())))
 (go3_ (j0_.1, j0_.2.1, ()))) fun go1_ =>
 M.ite (decide (x.1 ≥ 65536))
 (M.guard (decide (0 ≤ 16))
 (go1_ ((((x.1 : Int)).fdiv (2 ^ (min (Int.toNat 16) IntKind.u32.bits))), 16, ())))
 (go1_ (x.1, 0, ()))
def f155 (X : Task → M Value) (L : LoopI) (x : (Int) × Unit) : M Value :=
 f155c0 X L x

theorem e155 (X : Task → M Value) (L : LoopI) (x : (Int) × Unit) : evBody CC { call := X, loop := L } 155 (shsInj [(.cell (.int .u32))] x) = f155 X L x := by kernel_rfl

/-- math/bits.Len64 -/
def f156c0 (X : Task → M Value) (L : LoopI) (j0_ : (Int) × (Int) × Unit) : M (Value) :=
 M.join (fun (j2_ : (Int) × (Int) × Unit) =>
 M.join (fun (j4_ : (Int) × (Int) × Unit) =>
 let v6_ : Int := IntKind.u8.wrap j4_.1
 M.guard (decide (0 ≤ v6_) && decide (v6_ < (st5.size : Int)))
 (M.pure (.int .i64 (IntKind.i64.wrap (j4_.2.1 + (IntKind.i64.wrap (byteAt st5 v6_))))))) fun go5_ =>
 M.ite (decide (j2_.1 ≥ 256))
 (M.guard (decide (0 ≤ 8))
 (go5_ ((((j2_.1 : Int)).fdiv (2 ^ (min (Int.toNat 8) IntKind.u64.bits))), (IntKind.i64.wrap (j2_.2.1 + 8)), ())))
 (go5_ (j2_.1, j2_.2.1, ()))) fun go3_ =>
 M.ite (decide (j0_.1 ≥ 65536))
 (M.guard (decide (0 ≤ 16))
 (go3_ ((((j0_.1 : Int)).fdiv (2 ^ (min (Int.toNat 16) IntKind.u64.bits))), (IntKind.i64.wrap (j0_.2.1 + 16)), ())))
 (go3_ (j0_.1, j0_.2.1, ()))
def f156 (X : Task → M Value) (L : LoopI) (x : (Int) × Unit) : M Value :=
 M.join (fun (j0_ : (Int) × (Int) × Unit) =>
 f156c0 X L j0_) fun go1_ =>
 M.ite (decide (x.1 ≥ 4294967296))
 (M.guard (decide (0 ≤ 32))
 (go1_ ((((x.1 : Int)).fdiv (2 ^ (min (Int.toNat 32) IntKind.u64.bits))), 32, ())))
 (go1_ (x.1, 0, ()))

theorem e156 (X : Task → M Value) (L : LoopI) (x : (Int) × Unit) : evBody CC { call := X, loop := L } 156 (shsInj [(.cell (.int .u64))] x) = f156 X L x := by kernel_rfl

/-- hayrick/field.Add -/
def f157 (X : Task → M Value) (L : LoopI) (x : (Int) × (Int) × Unit) : M Value :=
 M.pure (.int .u8 (bitsV .xor .u8 x.1 x.2.1))

theorem e157 (X : Task → M Value) (L : LoopI) (x : (Int) × (Int) × Unit) : evBody CC { call := X, loop := L } 157 (shsInj [(.cell (.int .u8)), (.cell (.int .u8))] x) = f157 X L x := by kernel_rfl

/-- hayrick/field.Mul -/
def f158c0 (X : Task → M Value) (L : LoopI) (x : (Int) × (Int) × Unit) : M (Value) :=
 M.bind (L (σ := (Int) × (Int) × (Int) × Unit) (ρ := ((Int) × Unit) ⊕ (Unit)) (fun s0_ =>
 M.ite (decide (s0_.2.1 > 0))
 (M.join (fun (j2_ : (Int) × Unit) =>
 M.callS (.one (.cell (.int .u8))) (X (.call 174 [(.int .u8 s0_.1)])) fun (r4_ : Int) =>
 M.guard (decide (0 ≤ 1))
 (M.pure (.inl (r4_, (((s0_.2.1 : Int)).fdiv (2 ^ (min (Int.toNat 1) IntKind.u8.bits))), j2_.1, ())))) fun go3_ =>
 M.ite ((bitsV .and .u8 s0_.2.1 1) == 1)
 (go3_ ((bitsV .xor .u8 s0_.2.2.1 s0_.1), ()))
 (go3_ (s0_.2.2.1, ())))
 (M.pure (.inr (.inl (s0_.2.2.1, ()))))) (x.1, x.2.1, 0, ())) <| M.sum (fun (j9_ : (Int) × Unit) =>
 M.pure (.int .u8 j9_.1)) (fun _ => M.stuck)
def f158 (X : Task → M Value) (L : LoopI) (x : (Int) × (Int) × Unit) : M Value :=
 f158c0 X L x

theorem e158 (X : Task → M Value) (L : LoopI) (x : (Int) × (Int) × Unit) : evBody CC { call := X, loop := L } 158 (shsInj [(.cell (.int .u8)), (.cell (.int .u8))] x) = f158 X L x := by kernel_rfl

/-- hayrick/field.Inv -/
def f159 (X : Task → M Value) (L : LoopI) (x : (Int) × Unit) : M Value :=
 M.callS (.tuple [(.cell (.int .i64)), (.cell (.int .i64))]) (X (.call 175 [(.int .u8 x.1)])) fun (r0_ : (Int) × (Int) × Unit) =>
 M.ite (!(r0_.2.1 == 0))
 (M.pure (.tuple ⟨[(.int .u8 0), (.int .i64 r0_.2.1)]⟩))
 (M.callS (.one (.cell (.int .u8))) (X (.call 176 [(.int .i64 (IntKind.i64.wrap (0 - r0_.1)))])) fun (r3_ : Int) =>
 M.pure (.tuple ⟨[(.int .u8 r3_), (.int .i64 0)]⟩))

theorem e159 (X : Task → M Value) (L : LoopI) (x : (Int) × Unit) : evBody CC { call := X, loop := L } 159 (shsInj [(.cell (.int .u8))] x) = f159 X L x := by kernel_rfl

/-- hayrick/stamp.Put -/
def f160c0 (X : Task → M Value) (L : LoopI) (x : (Int) × ((Option Addr × Nat × Nat)) × Unit) (b2_ : Nat) : M (Value) :=
 M.bind (L (σ := (Int) × Unit) (ρ := (Unit) ⊕ (Unit)) (fun s3_ =>
 M.ite (decide (s3_.1 < 8))
 (let v6_ : Int := IntKind.i64.wrap (8 * (IntKind.i64.wrap (7 - s3_.1)))
 M.guard (decide (0 ≤ v6_))
 (M.guard (decide (0 ≤ s3_.1) && decide (s3_.1 < ((64 : Nat) : Int)))
 (M.store ((Addr.mk b2_ 0 none).add ((Int.toNat s3_.1) * 1)) [(.int .u8 (IntKind.u8.wrap (((x.1 : Int)).fdiv (2 ^ (min (Int.toNat v6_) IntKind.u64.bits)))))]
 (M.pure (.inl ((IntKind.i64.wrap (s3_.1 + 1)), ()))))))
 (M.pure (.inr (.inl (()))))) (0, ())) <| M.sum (fun (j10_ : Unit) =>
 M.guard (decide (0 ≤ 8) && decide (8 ≤ ((64 : Nat) : Int)))
 (let v11_ : Nat := (Int.toNat 8)
 M.copy 1 (some ((Addr.mk b2_ 0 none).add (v11_ * 1))) (64 - v11_) (.slice x.2.1.1 x.2.1.2.1 x.2.1.2.2) fun m12_ =>
 M.pure (.tuple ⟨[(.slice (some ((Addr.mk b2_ 0 none).add (0 * 1))) (64 - 0) (64 - 0)), (.int .i64 0)]⟩))) (fun _ => M.stuck)
def f160 (X : Task → M Value) (L : LoopI) (x : (Int) × ((Option Addr × Nat × Nat)) × Unit) : M Value :=
 M.ite (decide (((x.2.1.2.1 : Nat) : Int) > 56))
 (M.pure (.tuple ⟨[(.slice none 0 0), (.int .i64 3)]⟩))
 (M.new (.cells (Row.ofList (zc 182)) 182 false (0, 0) false) fun b2_ =>
 f160c0 X L x b2_)

theorem e160 (X : Task → M Value) (L : LoopI) (x : (Int) × ((Option Addr × Nat × Nat)) × Unit) : evBody CC { call := X, loop := L } 160 (shsInj [(.cell (.int .u64)), (.cell .slice)] x) = f160 X L x := by kernel_rfl

/-- (*hayrick/array.Array).ready -/
def f161c0 (X : Task → M Value) (L : LoopI) (x : (Option Addr) × (Int) × (Int) × Unit) : M (Value) :=
 M.join (fun (j4_ : (Bool) × Unit) =>
 M.ite j4_.1
 (M.pure (.int .i64 6))
 (M.callS (.one (.cell .bool)) (X (.call 124 [(.pointer x.1), (.int .i64 x.2.1)])) fun (r6_ : Bool) =>
 M.ite (!r6_)
 (M.pure (.int .i64 9))
 (M.pure (.int .i64 0)))) fun go5_ =>
 M.ite (decide (x.2.1 < 0))
 (go5_ (true, ()))
 (M.deref x.1 fun a9_ =>
 M.load (.cell .slice) 1 (a9_.add 1) fun (x10_ : (Option Addr × Nat × Nat)) =>
 M.ite (decide (x.2.1 ≥ ((x10_.2.1 : Nat) : Int)))
 (go5_ (true, ()))
 (M.ite (decide (x.2.2.1 < 0))
 (go5_ (true, ()))
 (M.deref x.1 fun a14_ =>
 M.load (.cell (.int .i64)) 1 (a14_.add 0) fun (x15_ : Int) =>
 go5_ ((decide (x.2.2.1 ≥ x15_)), ()))))
def f161 (X : Task → M Value) (L : LoopI) (x : (Option Addr) × (Int) × (Int) × Unit) : M Value :=
 M.join (fun (j0_ : (Bool) × Unit) =>
 M.ite j0_.1
 (M.pure (.int .i64 2))
 (M.deref x.1 fun a2_ =>
 M.load (.cell .bool) 1 (a2_.add 4) fun (x3_ : Bool) =>
 M.ite x3_
 (M.pure (.int .i64 8))
 (f161c0 X L x))) fun go1_ =>
 M.eqPtr x.1 none fun (q17_ : Bool) =>
 M.ite q17_
 (go1_ (true, ()))
 (M.deref x.1 fun a18_ =>
 M.load (.cell (.int .i64)) 1 (a18_.add 0) fun (x19_ : Int) =>
 go1_ ((x19_ == 0), ()))

theorem e161 (X : Task → M Value) (L : LoopI) (x : (Option Addr) × (Int) × (Int) × Unit) : evBody CC { call := X, loop := L } 161 (shsInj [(.cell .ptr), (.cell (.int .i64)), (.cell (.int .i64))] x) = f161 X L x := by kernel_rfl

/-- (*hayrick/array.Array).Read -/
def f162c0 (X : Task → M Value) (L : LoopI) (x : (Option Addr) × (Int) × (Int) × Unit) (b8_ : Nat) (go15_ : (Unit) → M (((Int) × Unit) ⊕ ((Unit) ⊕ (Unit)))) (x18_ : List Value) (b19_ : Nat) : M (((Int) × Unit) ⊕ ((Unit) ⊕ (Unit))) :=
 cond (Nat.beq x18_.length 66) (M.store (Addr.mk b19_ 0 none) x18_
 (M.join (fun (j20_ : (Bool) × Unit) =>
 M.ite j20_.1
 (M.load .raw 64 ((Addr.mk b19_ 0 none).add 2) fun (x22_ : List Value) =>
 cond (Nat.beq x22_.length 64) (M.store (Addr.mk b8_ 0 none) x22_
 (go15_ (()))) M.stuck)
 (go15_ (()))) fun go21_ =>
 M.load (.cell (.int .i64)) 1 ((Addr.mk b19_ 0 none).add 0) fun (x23_ : Int) =>
 M.ite (x23_ == x.2.1)
 (M.load (.cell (.int .i64)) 1 ((Addr.mk b19_ 0 none).add 1) fun (x25_ : Int) =>
 go21_ ((x25_ == x.2.2.1), ()))
 (go21_ (false, ())))) M.stuck
def f162c1 (X : Task → M Value) (L : LoopI) (x : (Option Addr) × (Int) × (Int) × Unit) (b8_ : Nat) (x10_ : (Option Addr × Nat × Nat)) (v11_ : Int) : M (Value) :=
 M.bind (L (σ := (Int) × Unit) (ρ := (Unit) ⊕ (Unit)) (fun s12_ =>
 M.ite (decide (s12_.1 < v11_))
 (M.join (fun (j14_ : Unit) =>
 M.pure (.inl ((IntKind.i64.wrap (s12_.1 + 1)), ()))) fun go15_ =>
 M.guard (decide (0 ≤ s12_.1) && decide (s12_.1 < ((x10_.2.1 : Nat) : Int)))
 (M.deref x10_.1 fun a17_ =>
 M.load .raw 66 (a17_.add ((Int.toNat s12_.1) * 66)) fun (x18_ : List Value) =>
 M.new (.cells (Row.ofList (zc 185)) 185 false (0, 0) false) fun b19_ =>
 f162c0 X L x b8_ go15_ x18_ b19_))
 (M.pure (.inr (.inl (()))))) (0, ())) <| M.sum (fun (j27_ : Unit) =>
 M.pure (.tuple ⟨[(.slice (some ((Addr.mk b8_ 0 none).add (0 * 1))) (64 - 0) (64 - 0)), (.int .i64 0)]⟩)) (fun _ => M.stuck)
def f162c2 (X : Task → M Value) (L : LoopI) (x : (Option Addr) × (Int) × (Int) × Unit) (a4_ : Addr) : M (Value) :=
 M.load (.cell .slice) 1 (a4_.add ((Int.toNat x.2.1) * 1)) fun (x5_ : (Option Addr × Nat × Nat)) =>
 M.guard (decide (0 ≤ x.2.2.1) && decide (x.2.2.1 < ((x5_.2.1 : Nat) : Int)))
 (M.deref x5_.1 fun a6_ =>
 M.load .raw 64 (a6_.add ((Int.toNat x.2.2.1) * 64)) fun (x7_ : List Value) =>
 M.new (.cells (Row.ofList (zc 183)) 183 false (0, 0) false) fun b8_ =>
 cond (Nat.beq x7_.length 64) (M.store (Addr.mk b8_ 0 none) x7_
 (M.deref x.1 fun a9_ =>
 M.load (.cell .slice) 1 (a9_.add 2) fun (x10_ : (Option Addr × Nat × Nat)) =>
 f162c1 X L x b8_ x10_ ((x10_.2.1 : Nat) : Int))) M.stuck)
def f162 (X : Task → M Value) (L : LoopI) (x : (Option Addr) × (Int) × (Int) × Unit) : M Value :=
 M.callS (.one (.cell (.int .i64))) (X (.call 161 [(.pointer x.1), (.int .i64 x.2.1), (.int .i64 x.2.2.1)])) fun (r0_ : Int) =>
 M.ite (!(r0_ == 0))
 (M.pure (.tuple ⟨[(.slice none 0 0), (.int .i64 r0_)]⟩))
 (M.deref x.1 fun a2_ =>
 M.load (.cell .slice) 1 (a2_.add 1) fun (x3_ : (Option Addr × Nat × Nat)) =>
 M.guard (decide (0 ≤ x.2.1) && decide (x.2.1 < ((x3_.2.1 : Nat) : Int)))
 (M.deref x3_.1 fun a4_ =>
 f162c2 X L x a4_))

theorem e162 (X : Task → M Value) (L : LoopI) (x : (Option Addr) × (Int) × (Int) × Unit) : evBody CC { call := X, loop := L } 162 (shsInj [(.cell .ptr), (.cell (.int .i64)), (.cell (.int .i64))] x) = f162 X L x := by kernel_rfl

/-- slices.IndexFunc[[][]byte,[]byte] -/
def f163c0 (X : Task → M Value) (L : LoopI) (x : ((Option Addr × Nat × Nat)) × (Value) × Unit) (v0_ : Int) : M (Value) :=
 M.bind (L (σ := (Int) × Unit) (ρ := (Unit) ⊕ (((Int) × Unit) ⊕ (Unit))) (fun s1_ =>
 M.ite (decide (s1_.1 < v0_))
 (M.guard (decide (0 ≤ s1_.1) && decide (s1_.1 < ((x.1.2.1 : Nat) : Int)))
 (M.deref x.1.1 fun a3_ =>
 M.load (.cell .slice) 1 (a3_.add ((Int.toNat s1_.1) * 1)) fun (x4_ : (Option Addr × Nat × Nat)) =>
 callV CC ⟨X, L⟩ x.2.1 [(.slice x4_.1 x4_.2.1 x4_.2.2)] fun w6_ => M.need (RSh.prj (.one (.cell .bool)) w6_) fun (r5_ : Bool) =>
 M.ite r5_
 (M.pure (.inr (.inr (.inl (s1_.1, ())))))
 (M.pure (.inl ((IntKind.i64.wrap (s1_.1 + 1)), ())))))
 (M.pure (.inr (.inl (()))))) (0, ())) <| M.sum (fun (j8_ : Unit) =>
 M.pure (.int .i64 (-1))) (M.sum (fun (j9_ : (Int) × Unit) =>
 M.pure (.int .i64 j9_.1)) (fun _ => M.stuck))
def f163 (X : Task → M Value) (L : LoopI) (x : ((Option Addr × Nat × Nat)) × (Value) × Unit) : M Value :=
 f163c0 X L x ((x.1.2.1 : Nat) : Int)

theorem e163 (X : Task → M Value) (L : LoopI) (x : ((Option Addr × Nat × Nat)) × (Value) × Unit) : evBody CC { call := X, loop := L } 163 (shsInj [(.cell .slice), (.cell .val)] x) = f163 X L x := by kernel_rfl

/-- hayrick/matrix.May -/
def f164c0 (X : Task → M Value) (L : LoopI) (x : ((Option Addr × Nat × Nat)) × Unit) (s3_ : (Int) × Unit) : M (((Int) × Unit) ⊕ ((Unit) ⊕ (((Bool) × Unit) ⊕ (Unit)))) :=
 M.guard (decide (0 ≤ s3_.1) && decide (s3_.1 < ((x.1.2.1 : Nat) : Int)))
 (M.deref x.1.1 fun a5_ =>
 M.load (.cell .slice) 1 (a5_.add ((Int.toNat s3_.1) * 1)) fun (x6_ : (Option Addr × Nat × Nat)) =>
 M.guard (decide (0 ≤ 0) && decide (0 < ((x.1.2.1 : Nat) : Int)))
 (M.deref x.1.1 fun a8_ =>
 M.load (.cell .slice) 1 (a8_.add ((Int.toNat 0) * 1)) fun (x9_ : (Option Addr × Nat × Nat)) =>
 M.ite (!(((x6_.2.1 : Nat) : Int) == ((x9_.2.1 : Nat) : Int)))
 (M.pure (.inr (.inr (.inl (false, ())))))
 (M.pure (.inl ((IntKind.i64.wrap (s3_.1 + 1)), ())))))
def f164c1 (X : Task → M Value) (L : LoopI) (x : ((Option Addr × Nat × Nat)) × Unit) (go1_ : ((Bool) × Unit) → M (Value)) (v18_ : Bool) : M (Value) :=
 M.ite v18_
 (go1_ (true, ()))
 (M.guard (decide (0 ≤ 0) && decide (0 < ((x.1.2.1 : Nat) : Int)))
 (M.deref x.1.1 fun a19_ =>
 M.load (.cell .slice) 1 (a19_.add ((Int.toNat 0) * 1)) fun (x20_ : (Option Addr × Nat × Nat)) =>
 M.ite (decide (((x20_.2.1 : Nat) : Int) < 1))
 (go1_ (true, ()))
 (M.guard (decide (0 ≤ 0) && decide (0 < ((x.1.2.1 : Nat) : Int)))
 (M.deref x.1.1 fun a23_ =>
 M.load (.cell .slice) 1 (a23_.add ((Int.toNat 0) * 1)) fun (x24_ : (Option Addr × Nat × Nat)) =>
 go1_ ((decide (((x24_.2.1 : Nat) : Int) > 255)), ())))))
def f164c2 (X : Task → M Value) (L : LoopI) (x : ((Option Addr × Nat × Nat)) × Unit) : M (Value) :=
 M.join (fun (j0_ : (Bool) × Unit) =>
 M.ite j0_.1
 (M.pure (.bool false))
 (M.bind (L (σ := (Int) × Unit) (ρ := (Unit) ⊕ (((Bool) × Unit) ⊕ (Unit))) (fun s3_ =>
 M.ite (decide (s3_.1 < ((x.1.2.1 : Nat) : Int)))
 (f164c0 X L x s3_)
 (M.pure (.inr (.inl (()))))) (0, ())) <| M.sum (fun (j13_ : Unit) =>
 M.pure (.bool true)) (M.sum (fun (j14_ : (Bool) × Unit) =>
 M.pure (.bool j14_.1)) (fun _ => M.stuck)))) fun go1_ =>
 M.ite (decide (((x.1.2.1 : Nat) : Int) < 1))
 (go1_ (true, ()))
 (f164c1 X L x go1_ (decide (((x.1.2.1 : Nat) : Int) > 255)))
def f164 (X : Task → M Value) (L : LoopI) (x : ((Option Addr × Nat × Nat)) × Unit) : M Value :=
 f164c2 X L x

theorem e164 (X : Task → M Value) (L : LoopI) (x : ((Option Addr × Nat × Nat)) × Unit) : evBody CC { call := X, loop := L } 164 (shsInj [(.cell .slice)] x) = f164 X L x := by kernel_rfl

/-- hayrick/matrix.Identity -/
def f166c0 (X : Task → M Value) (L : LoopI) (r2_ : (Option Addr × Nat × Nat)) (v3_ : Int) : M (Value) :=
 M.bind (L (σ := (Int) × Unit) (ρ := (Unit) ⊕ (Unit)) (fun s4_ =>
 M.ite (decide (s4_.1 < v3_))
 (M.guard (decide (0 ≤ s4_.1) && decide (s4_.1 < ((r2_.2.1 : Nat) : Int)))
 (M.deref r2_.1 fun a6_ =>
 M.load (.cell .slice) 1 (a6_.add ((Int.toNat s4_.1) * 1)) fun (x7_ : (Option Addr × Nat × Nat)) =>
 M.guard (decide (0 ≤ s4_.1) && decide (s4_.1 < ((x7_.2.1 : Nat) : Int)))
 (M.deref x7_.1 fun a8_ =>
 M.store (a8_.add ((Int.toNat s4_.1) * 1)) [(.int .u8 1)]
 (M.pure (.inl ((IntKind.i64.wrap (s4_.1 + 1)), ()))))))
 (M.pure (.inr (.inl (()))))) (0, ())) <| M.sum (fun (j10_ : Unit) =>
 M.pure (.tuple ⟨[(.slice r2_.1 r2_.2.1 r2_.2.2), (.int .i64 0)]⟩)) (fun _ => M.stuck)
def f166 (X : Task → M Value) (L : LoopI) (x : (Int) × Unit) : M Value :=
 M.join (fun (j0_ : (Bool) × Unit) =>
 M.ite j0_.1
 (M.pure (.tuple ⟨[(.slice none 0 0), (.int .i64 1)]⟩))
 (M.callS (.one (.cell .slice)) (X (.call 177 [(.int .i64 x.1), (.int .i64 x.1)])) fun (r2_ : (Option Addr × Nat × Nat)) =>
 f166c0 X L r2_ ((r2_.2.1 : Nat) : Int))) fun go1_ =>
 M.ite (decide (x.1 < 1))
 (go1_ (true, ()))
 (go1_ ((decide (x.1 > 255)), ()))

theorem e166 (X : Task → M Value) (L : LoopI) (x : (Int) × Unit) : evBody CC { call := X, loop := L } 166 (shsInj [(.cell (.int .i64))] x) = f166 X L x := by kernel_rfl

/-- hayrick/matrix.solve -/
def f167c0 (X : Task → M Value) (L : LoopI) (x : ((Option Addr × Nat × Nat)) × ((Option Addr × Nat × Nat)) × Unit) (s1_ : (Int) × Unit) (s3_ : (Int) × Unit) : M (((Int) × Unit) ⊕ (((Int) × Unit) ⊕ (Unit))) :=
 M.join (fun (j4_ : (Bool) × Unit) =>
 M.ite j4_.1
 (M.pure (.inl ((IntKind.i64.wrap (s3_.1 + 1)), ())))
 (M.pure (.inr (.inl (s3_.1, ()))))) fun go5_ =>
 M.ite (decide (s3_.1 < ((x.1.2.1 : Nat) : Int)))
 (M.guard (decide (0 ≤ s3_.1) && decide (s3_.1 < ((x.1.2.1 : Nat) : Int)))
 (M.deref x.1.1 fun a9_ =>
 M.load (.cell .slice) 1 (a9_.add ((Int.toNat s3_.1) * 1)) fun (x10_ : (Option Addr × Nat × Nat)) =>
 M.guard (decide (0 ≤ s1_.1) && decide (s1_.1 < ((x10_.2.1 : Nat) : Int)))
 (M.deref x10_.1 fun a11_ =>
 M.load (.cell (.int .u8)) 1 (a11_.add ((Int.toNat s1_.1) * 1)) fun (x12_ : Int) =>
 go5_ ((x12_ == 0), ()))))
 (go5_ (false, ()))
def f167c1 (X : Task → M Value) (L : LoopI) (s1_ : (Int) × Unit) (s37_ : (Int) × Unit) (a39_ : Addr) (x40_ : (Option Addr × Nat × Nat)) (a41_ : Addr) (x42_ : (Option Addr × Nat × Nat)) (r51_ : Int) (r56_ : Int) : M (((Int) × Unit) ⊕ ((Unit) ⊕ (Unit))) :=
 M.load (.cell .slice) 1 (a41_.add ((Int.toNat s1_.1) * 1)) fun (x57_ : (Option Addr × Nat × Nat)) => cond (veqv (.slice x57_.1 x57_.2.1 x57_.2.2) (.slice x42_.1 x42_.2.1 x42_.2.2)) (M.load (.cell .slice) 1 (a39_.add ((Int.toNat s1_.1) * 1)) fun (x58_ : (Option Addr × Nat × Nat)) => cond (veqv (.slice x58_.1 x58_.2.1 x58_.2.2) (.slice x40_.1 x40_.2.1 x40_.2.2)) (M.guard (decide (0 ≤ s37_.1) && decide (s37_.1 < ((x40_.2.1 : Nat) : Int)))
 (M.deref x40_.1 fun a59_ =>
 M.store (a59_.add ((Int.toNat s37_.1) * 1)) [(.int .u8 r51_)]
 (M.guard (decide (0 ≤ s37_.1) && decide (s37_.1 < ((x42_.2.1 : Nat) : Int)))
 (M.deref x42_.1 fun a60_ =>
 M.store (a60_.add ((Int.toNat s37_.1) * 1)) [(.int .u8 r56_)]
 (M.pure (.inl ((IntKind.i64.wrap (s37_.1 + 1)), ()))))))) M.stuck) M.stuck
def f167c2 (X : Task → M Value) (L : LoopI) (s1_ : (Int) × Unit) (r33_ : (Int) × (Int) × Unit) (s37_ : (Int) × Unit) (a39_ : Addr) (x40_ : (Option Addr × Nat × Nat)) (a41_ : Addr) (x42_ : (Option Addr × Nat × Nat)) (a47_ : Addr) (x48_ : (Option Addr × Nat × Nat)) (a49_ : Addr) (x50_ : Int) (r51_ : Int) : M (((Int) × Unit) ⊕ ((Unit) ⊕ (Unit))) :=
 M.load (.cell (.int .u8)) 1 (a49_.add ((Int.toNat s37_.1) * 1)) fun (x52_ : Int) => cond (veqv (.int .u8 x52_) (.int .u8 x50_)) (M.load (.cell .slice) 1 (a47_.add ((Int.toNat s1_.1) * 1)) fun (x53_ : (Option Addr × Nat × Nat)) => cond (veqv (.slice x53_.1 x53_.2.1 x53_.2.2) (.slice x48_.1 x48_.2.1 x48_.2.2)) (M.load (.cell .slice) 1 (a41_.add ((Int.toNat s1_.1) * 1)) fun (x54_ : (Option Addr × Nat × Nat)) => cond (veqv (.slice x54_.1 x54_.2.1 x54_.2.2) (.slice x42_.1 x42_.2.1 x42_.2.2)) (M.load (.cell .slice) 1 (a39_.add ((Int.toNat s1_.1) * 1)) fun (x55_ : (Option Addr × Nat × Nat)) => cond (veqv (.slice x55_.1 x55_.2.1 x55_.2.2) (.slice x40_.1 x40_.2.1 x40_.2.2)) (M.callS (.one (.cell (.int .u8))) (X (.call 158 [(.int .u8 x50_), (.int .u8 r33_.1)])) fun (r56_ : Int) =>
 f167c1 X L s1_ s37_ a39_ x40_ a41_ x42_ r51_ r56_) M.stuck) M.stuck) M.stuck) M.stuck
def f167c3 (X : Task → M Value) (L : LoopI) (x : ((Option Addr × Nat × Nat)) × ((Option Addr × Nat × Nat)) × Unit) (s1_ : (Int) × Unit) (r33_ : (Int) × (Int) × Unit) (s37_ : (Int) × Unit) (a39_ : Addr) (x40_ : (Option Addr × Nat × Nat)) (a41_ : Addr) (x42_ : (Option Addr × Nat × Nat)) (x46_ : Int) : M (((Int) × Unit) ⊕ ((Unit) ⊕ (Unit))) :=
 M.guard (decide (0 ≤ s1_.1) && decide (s1_.1 < ((x.2.1.2.1 : Nat) : Int)))
 (M.deref x.2.1.1 fun a47_ =>
 M.load (.cell .slice) 1 (a47_.add ((Int.toNat s1_.1) * 1)) fun (x48_ : (Option Addr × Nat × Nat)) =>
 M.guard (decide (0 ≤ s37_.1) && decide (s37_.1 < ((x48_.2.1 : Nat) : Int)))
 (M.deref x48_.1 fun a49_ =>
 M.load (.cell (.int .u8)) 1 (a49_.add ((Int.toNat s37_.1) * 1)) fun (x50_ : Int) =>
 M.callS (.one (.cell (.int .u8))) (X (.call 158 [(.int .u8 x46_), (.int .u8 r33_.1)])) fun (r51_ : Int) =>
 f167c2 X L s1_ r33_ s37_ a39_ x40_ a41_ x42_ a47_ x48_ a49_ x50_ r51_))
def f167c4 (X : Task → M Value) (L : LoopI) (x : ((Option Addr × Nat × Nat)) × ((Option Addr × Nat × Nat)) × Unit) (s1_ : (Int) × Unit) (r33_ : (Int) × (Int) × Unit) (s37_ : (Int) × Unit) (a39_ : Addr) (x40_ : (Option Addr × Nat × Nat)) (a41_ : Addr) : M (((Int) × Unit) ⊕ ((Unit) ⊕ (Unit))) :=
 M.load (.cell .slice) 1 (a41_.add ((Int.toNat s1_.1) * 1)) fun (x42_ : (Option Addr × Nat × Nat)) =>
 M.guard (decide (0 ≤ s1_.1) && decide (s1_.1 < ((x.1.2.1 : Nat) : Int)))
 (M.deref x.1.1 fun a43_ =>
 M.load (.cell .slice) 1 (a43_.add ((Int.toNat s1_.1) * 1)) fun (x44_ : (Option Addr × Nat × Nat)) =>
 M.guard (decide (0 ≤ s37_.1) && decide (s37_.1 < ((x44_.2.1 : Nat) : Int)))
 (M.deref x44_.1 fun a45_ =>
 M.load (.cell (.int .u8)) 1 (a45_.add ((Int.toNat s37_.1) * 1)) fun (x46_ : Int) =>
 f167c3 X L x s1_ r33_ s37_ a39_ x40_ a41_ x42_ x46_))
def f167c5 (X : Task → M Value) (L : LoopI) (x : ((Option Addr × Nat × Nat)) × ((Option Addr × Nat × Nat)) × Unit) (s1_ : (Int) × Unit) (s64_ : (Int) × Unit) (go67_ : (Unit) → M (((Int) × Unit) ⊕ ((Unit) ⊕ (Unit)))) (x73_ : Int) : M (((Int) × Unit) ⊕ ((Unit) ⊕ (Unit))) :=
 M.guard (decide (0 ≤ s64_.1) && decide (s64_.1 < ((x.2.1.2.1 : Nat) : Int)))
 (M.deref x.2.1.1 fun a79_ =>
 M.load (.cell .slice) 1 (a79_.add ((Int.toNat s64_.1) * 1)) fun (x80_ : (Option Addr × Nat × Nat)) =>
 M.guard (decide (0 ≤ s1_.1) && decide (s1_.1 < ((x.2.1.2.1 : Nat) : Int)))
 (M.deref x.2.1.1 fun a81_ =>
 M.load (.cell .slice) 1 (a81_.add ((Int.toNat s1_.1) * 1)) fun (x82_ : (Option Addr × Nat × Nat)) =>
 M.callS (.tuple []) (X (.call 178 [(.slice x80_.1 x80_.2.1 x80_.2.2), (.slice x82_.1 x82_.2.1 x82_.2.2), (.int .u8 x73_)])) fun (r83_ : Unit) =>
 go67_ (())))
def f167c6 (X : Task → M Value) (L : LoopI) (x : ((Option Addr × Nat × Nat)) × ((Option Addr × Nat × Nat)) × Unit) (s1_ : (Int) × Unit) (s64_ : (Int) × Unit) (go67_ : (Unit) → M (((Int) × Unit) ⊕ ((Unit) ⊕ (Unit)))) (x73_ : Int) : M (((Int) × Unit) ⊕ ((Unit) ⊕ (Unit))) :=
 M.guard (decide (0 ≤ s64_.1) && decide (s64_.1 < ((x.1.2.1 : Nat) : Int)))
 (M.deref x.1.1 fun a74_ =>
 M.load (.cell .slice) 1 (a74_.add ((Int.toNat s64_.1) * 1)) fun (x75_ : (Option Addr × Nat × Nat)) =>
 M.guard (decide (0 ≤ s1_.1) && decide (s1_.1 < ((x.1.2.1 : Nat) : Int)))
 (M.deref x.1.1 fun a76_ =>
 M.load (.cell .slice) 1 (a76_.add ((Int.toNat s1_.1) * 1)) fun (x77_ : (Option Addr × Nat × Nat)) =>
 M.callS (.tuple []) (X (.call 178 [(.slice x75_.1 x75_.2.1 x75_.2.2), (.slice x77_.1 x77_.2.1 x77_.2.2), (.int .u8 x73_)])) fun (r78_ : Unit) =>
 f167c5 X L x s1_ s64_ go67_ x73_))
def f167c7 (X : Task → M Value) (L : LoopI) (x : ((Option Addr × Nat × Nat)) × ((Option Addr × Nat × Nat)) × Unit) (s1_ : (Int) × Unit) (s64_ : (Int) × Unit) : M (((Int) × Unit) ⊕ ((Unit) ⊕ (Unit))) :=
 M.join (fun (j66_ : Unit) =>
 M.pure (.inl ((IntKind.i64.wrap (s64_.1 + 1)), ()))) fun go67_ =>
 M.ite (!(s64_.1 == s1_.1))
 (M.guard (decide (0 ≤ s64_.1) && decide (s64_.1 < ((x.1.2.1 : Nat) : Int)))
 (M.deref x.1.1 fun a70_ =>
 M.load (.cell .slice) 1 (a70_.add ((Int.toNat s64_.1) * 1)) fun (x71_ : (Option Addr × Nat × Nat)) =>
 M.guard (decide (0 ≤ s1_.1) && decide (s1_.1 < ((x71_.2.1 : Nat) : Int)))
 (M.deref x71_.1 fun a72_ =>
 M.load (.cell (.int .u8)) 1 (a72_.add ((Int.toNat s1_.1) * 1)) fun (x73_ : Int) =>
 f167c6 X L x s1_ s64_ go67_ x73_)))
 (go67_ (()))
def f167c8 (X : Task → M Value) (L : LoopI) (x : ((Option Addr × Nat × Nat)) × ((Option Addr × Nat × Nat)) × Unit) (s1_ : (Int) × Unit) (r33_ : (Int) × (Int) × Unit) (v36_ : Int) : M (((Int) × Unit) ⊕ ((Unit) ⊕ (Unit))) :=
 M.bind (L (σ := (Int) × Unit) (ρ := (Unit) ⊕ (Unit)) (fun s37_ =>
 M.ite (decide (s37_.1 < v36_))
 (M.guard (decide (0 ≤ s1_.1) && decide (s1_.1 < ((x.1.2.1 : Nat) : Int)))
 (M.deref x.1.1 fun a39_ =>
 M.load (.cell .slice) 1 (a39_.add ((Int.toNat s1_.1) * 1)) fun (x40_ : (Option Addr × Nat × Nat)) =>
 M.guard (decide (0 ≤ s1_.1) && decide (s1_.1 < ((x.2.1.2.1 : Nat) : Int)))
 (M.deref x.2.1.1 fun a41_ =>
 f167c4 X L x s1_ r33_ s37_ a39_ x40_ a41_)))
 (M.pure (.inr (.inl (()))))) (0, ())) <| M.sum (fun (j62_ : Unit) =>
 M.bind (L (σ := (Int) × Unit) (ρ := (Unit) ⊕ (Unit)) (fun s64_ =>
 M.ite (decide (s64_.1 < ((x.1.2.1 : Nat) : Int)))
 (f167c7 X L x s1_ s64_)
 (M.pure (.inr (.inl (()))))) (0, ())) <| M.sum (fun (j84_ : Unit) =>
 M.pure (.inl ((IntKind.i64.wrap (s1_.1 + 1)), ()))) (fun _ => M.stuck)) (fun _ => M.stuck)
def f167c9 (X : Task → M Value) (L : LoopI) (x : ((Option Addr × Nat × Nat)) × ((Option Addr × Nat × Nat)) × Unit) (s1_ : (Int) × Unit) (x30_ : (Option Addr × Nat × Nat)) : M (((Int) × Unit) ⊕ ((Unit) ⊕ (Unit))) :=
 M.guard (decide (0 ≤ s1_.1) && decide (s1_.1 < ((x30_.2.1 : Nat) : Int)))
 (M.deref x30_.1 fun a31_ =>
 M.load (.cell (.int .u8)) 1 (a31_.add ((Int.toNat s1_.1) * 1)) fun (x32_ : Int) =>
 M.callS (.tuple [(.cell (.int .u8)), (.cell (.int .i64))]) (X (.call 159 [(.int .u8 x32_)])) fun (r33_ : (Int) × (Int) × Unit) =>
 M.guard (decide (0 ≤ s1_.1) && decide (s1_.1 < ((x.1.2.1 : Nat) : Int)))
 (M.deref x.1.1 fun a34_ =>
 M.load (.cell .slice) 1 (a34_.add ((Int.toNat s1_.1) * 1)) fun (x35_ : (Option Addr × Nat × Nat)) =>
 f167c8 X L x s1_ r33_ ((x35_.2.1 : Nat) : Int)))
def f167c10 (X : Task → M Value) (L : LoopI) (x : ((Option Addr × Nat × Nat)) × ((Option Addr × Nat × Nat)) × Unit) (s1_ : (Int) × Unit) (j14_ : (Int) × Unit) (x24_ : (Option Addr × Nat × Nat)) (x26_ : (Option Addr × Nat × Nat)) : M (((Int) × Unit) ⊕ ((Unit) ⊕ (Unit))) :=
 M.guard (decide (0 ≤ s1_.1) && decide (s1_.1 < ((x.2.1.2.1 : Nat) : Int)))
 (M.deref x.2.1.1 fun a27_ =>
 M.store (a27_.add ((Int.toNat s1_.1) * 1)) [(.slice x24_.1 x24_.2.1 x24_.2.2)]
 (M.guard (decide (0 ≤ j14_.1) && decide (j14_.1 < ((x.2.1.2.1 : Nat) : Int)))
 (M.deref x.2.1.1 fun a28_ =>
 M.store (a28_.add ((Int.toNat j14_.1) * 1)) [(.slice x26_.1 x26_.2.1 x26_.2.2)]
 (M.guard (decide (0 ≤ s1_.1) && decide (s1_.1 < ((x.1.2.1 : Nat) : Int)))
 (M.deref x.1.1 fun a29_ =>
 M.load (.cell .slice) 1 (a29_.add ((Int.toNat s1_.1) * 1)) fun (x30_ : (Option Addr × Nat × Nat)) =>
 f167c9 X L x s1_ x30_)))))
def f167c11 (X : Task → M Value) (L : LoopI) (x : ((Option Addr × Nat × Nat)) × ((Option Addr × Nat × Nat)) × Unit) (s1_ : (Int) × Unit) (j14_ : (Int) × Unit) (x20_ : (Option Addr × Nat × Nat)) (a22_ : Addr) : M (((Int) × Unit) ⊕ ((Unit) ⊕ (Unit))) :=
 M.store (a22_.add ((Int.toNat j14_.1) * 1)) [(.slice x20_.1 x20_.2.1 x20_.2.2)]
 (M.guard (decide (0 ≤ j14_.1) && decide (j14_.1 < ((x.2.1.2.1 : Nat) : Int)))
 (M.deref x.2.1.1 fun a23_ =>
 M.load (.cell .slice) 1 (a23_.add ((Int.toNat j14_.1) * 1)) fun (x24_ : (Option Addr × Nat × Nat)) =>
 M.guard (decide (0 ≤ s1_.1) && decide (s1_.1 < ((x.2.1.2.1 : Nat) : Int)))
 (M.deref x.2.1.1 fun a25_ =>
 M.load (.cell .slice) 1 (a25_.add ((Int.toNat s1_.1) * 1)) fun (x26_ : (Option Addr × Nat × Nat)) =>
 f167c10 X L x s1_ j14_ x24_ x26_)))
def f167c12 (X : Task → M Value) (L : LoopI) (x : ((Option Addr × Nat × Nat)) × ((Option Addr × Nat × Nat)) × Unit) (s1_ : (Int) × Unit) (j14_ : (Int) × Unit) (x18_ : (Option Addr × Nat × Nat)) : M (((Int) × Unit) ⊕ ((Unit) ⊕ (Unit))) :=
 M.guard (decide (0 ≤ s1_.1) && decide (s1_.1 < ((x.1.2.1 : Nat) : Int)))
 (M.deref x.1.1 fun a19_ =>
 M.load (.cell .slice) 1 (a19_.add ((Int.toNat s1_.1) * 1)) fun (x20_ : (Option Addr × Nat × Nat)) =>
 M.guard (decide (0 ≤ s1_.1) && decide (s1_.1 < ((x.1.2.1 : Nat) : Int)))
 (M.deref x.1.1 fun a21_ =>
 M.store (a21_.add ((Int.toNat s1_.1) * 1)) [(.slice x18_.1 x18_.2.1 x18_.2.2)]
 (M.guard (decide (0 ≤ j14_.1) && decide (j14_.1 < ((x.1.2.1 : Nat) : Int)))
 (M.deref x.1.1 fun a22_ =>
 f167c11 X L x s1_ j14_ x20_ a22_))))
def f167c13 (X : Task → M Value) (L : LoopI) (x : ((Option Addr × Nat × Nat)) × ((Option Addr × Nat × Nat)) × Unit) (s1_ : (Int) × Unit) : M (((Int) × Unit) ⊕ ((Unit) ⊕ (Unit))) :=
 M.bind (L (σ := (Int) × Unit) (ρ := ((Int) × Unit) ⊕ (Unit)) (fun s3_ =>
 f167c0 X L x s1_ s3_) (s1_.1, ())) <| M.sum (fun (j14_ : (Int) × Unit) =>
 M.join (fun (j15_ : Unit) =>
 M.guard (decide (0 ≤ j14_.1) && decide (j14_.1 < ((x.1.2.1 : Nat) : Int)))
 (M.deref x.1.1 fun a17_ =>
 M.load (.cell .slice) 1 (a17_.add ((Int.toNat j14_.1) * 1)) fun (x18_ : (Option Addr × Nat × Nat)) =>
 f167c12 X L x s1_ j14_ x18_)) fun go16_ =>
 M.ite (j14_.1 == ((x.1.2.1 : Nat) : Int))
 (M.throw (.iface 263 (.agg ⟨[(.int .i64 s1_.1)]⟩)))
 (go16_ (()))) (fun _ => M.stuck)
def f167 (X : Task → M Value) (L : LoopI) (x : ((Option Addr × Nat × Nat)) × ((Option Addr × Nat × Nat)) × Unit) : M Value :=
 M.bind (L (σ := (Int) × Unit) (ρ := (Unit) ⊕ (Unit)) (fun s1_ =>
 M.ite (decide (s1_.1 < ((x.1.2.1 : Nat) : Int)))
 (f167c13 X L x s1_)
 (M.pure (.inr (.inl (()))))) (0, ())) <| M.sum (fun (j88_ : Unit) =>
 M.pure (.tuple ⟨[]⟩)) (fun _ => M.stuck)

theorem e167 (X : Task → M Value) (L : LoopI) (x : ((Option Addr × Nat × Nat)) × ((Option Addr × Nat × Nat)) × Unit) : evBody CC { call := X, loop := L } 167 (shsInj [(.cell .slice), (.cell .slice)] x) = f167 X L x := by kernel_rfl

/-- slices.siftDownOrdered[int] -/
def f168c0 (X : Task → M Value) (L : LoopI) (x : ((Option Addr × Nat × Nat)) × (Int) × (Int) × (Int) × Unit) (j4_ : (Int) × Unit) (v14_ : Int) (v15_ : Int) (x18_ : Int) (v19_ : Int) : M (((Int) × Unit) ⊕ ((Unit) ⊕ ((Unit) ⊕ (Unit)))) :=
 M.guard (decide (0 ≤ v19_) && decide (v19_ < ((x.1.2.1 : Nat) : Int)))
 (M.deref x.1.1 fun a20_ =>
 M.load (.cell (.int .i64)) 1 (a20_.add ((Int.toNat v19_) * 1)) fun (x21_ : Int) =>
 M.guard (decide (0 ≤ v14_) && decide (v14_ < ((x.1.2.1 : Nat) : Int)))
 (M.deref x.1.1 fun a22_ =>
 M.store (a22_.add ((Int.toNat v14_) * 1)) [(.int .i64 x18_)]
 (M.guard (decide (0 ≤ v15_) && decide (v15_ < ((x.1.2.1 : Nat) : Int)))
 (M.deref x.1.1 fun a23_ =>
 M.store (a23_.add ((Int.toNat v15_) * 1)) [(.int .i64 x21_)]
 (M.pure (.inl (j4_.1, ())))))))
def f168c1 (X : Task → M Value) (L : LoopI) (x : ((Option Addr × Nat × Nat)) × (Int) × (Int) × (Int) × Unit) (s0_ : (Int) × Unit) (j4_ : (Int) × Unit) (x8_ : Int) (x11_ : Int) : M (((Int) × Unit) ⊕ ((Unit) ⊕ ((Unit) ⊕ (Unit)))) :=
 M.callS (.one (.cell .bool)) (X (.call 152 [(.int .i64 x8_), (.int .i64 x11_)])) fun (r12_ : Bool) =>
 M.ite (!r12_)
 (M.pure (.inr (.inr (.inl (())))))
 (let v16_ : Int := IntKind.i64.wrap (x.2.2.2.1 + j4_.1)
 M.guard (decide (0 ≤ v16_) && decide (v16_ < ((x.1.2.1 : Nat) : Int)))
 (M.deref x.1.1 fun a17_ =>
 M.load (.cell (.int .i64)) 1 (a17_.add ((Int.toNat v16_) * 1)) fun (x18_ : Int) =>
 f168c0 X L x j4_ (IntKind.i64.wrap (x.2.2.2.1 + s0_.1)) (IntKind.i64.wrap (x.2.2.2.1 + j4_.1)) x18_ (IntKind.i64.wrap (x.2.2.2.1 + s0_.1))))
def f168c2 (X : Task → M Value) (L : LoopI) (x : ((Option Addr × Nat × Nat)) × (Int) × (Int) × (Int) × Unit) (v2_ : Int) (go25_ : ((Bool) × Unit) → M (((Int) × Unit) ⊕ ((Unit) ⊕ ((Unit) ⊕ (Unit))))) (v29_ : Int) : M (((Int) × Unit) ⊕ ((Unit) ⊕ ((Unit) ⊕ (Unit)))) :=
 M.guard (decide (0 ≤ v29_) && decide (v29_ < ((x.1.2.1 : Nat) : Int)))
 (M.deref x.1.1 fun a30_ =>
 M.load (.cell (.int .i64)) 1 (a30_.add ((Int.toNat v29_) * 1)) fun (x31_ : Int) =>
 let v33_ : Int := IntKind.i64.wrap ((IntKind.i64.wrap (x.2.2.2.1 + v2_)) + 1)
 M.guard (decide (0 ≤ v33_) && decide (v33_ < ((x.1.2.1 : Nat) : Int)))
 (M.deref x.1.1 fun a34_ =>
 M.load (.cell (.int .i64)) 1 (a34_.add ((Int.toNat v33_) * 1)) fun (x35_ : Int) =>
 M.callS (.one (.cell .bool)) (X (.call 152 [(.int .i64 x31_), (.int .i64 x35_)])) fun (r36_ : Bool) =>
 go25_ (r36_, ())))
def f168c3 (X : Task → M Value) (L : LoopI) (x : ((Option Addr × Nat × Nat)) × (Int) × (Int) × (Int) × Unit) (s0_ : (Int) × Unit) (v2_ : Int) : M (((Int) × Unit) ⊕ ((Unit) ⊕ ((Unit) ⊕ (Unit)))) :=
 M.join (fun (j4_ : (Int) × Unit) =>
 let v6_ : Int := IntKind.i64.wrap (x.2.2.2.1 + s0_.1)
 M.guard (decide (0 ≤ v6_) && decide (v6_ < ((x.1.2.1 : Nat) : Int)))
 (M.deref x.1.1 fun a7_ =>
 M.load (.cell (.int .i64)) 1 (a7_.add ((Int.toNat v6_) * 1)) fun (x8_ : Int) =>
 let v9_ : Int := IntKind.i64.wrap (x.2.2.2.1 + j4_.1)
 M.guard (decide (0 ≤ v9_) && decide (v9_ < ((x.1.2.1 : Nat) : Int)))
 (M.deref x.1.1 fun a10_ =>
 M.load (.cell (.int .i64)) 1 (a10_.add ((Int.toNat v9_) * 1)) fun (x11_ : Int) =>
 f168c1 X L x s0_ j4_ x8_ x11_))) fun go5_ =>
 M.join (fun (j24_ : (Bool) × Unit) =>
 M.ite j24_.1
 (go5_ ((IntKind.i64.wrap (v2_ + 1)), ()))
 (go5_ (v2_, ()))) fun go25_ =>
 M.ite (decide ((IntKind.i64.wrap (v2_ + 1)) < x.2.2.1))
 (f168c2 X L x v2_ go25_ (IntKind.i64.wrap (x.2.2.2.1 + v2_)))
 (go25_ (false, ()))
def f168 (X : Task → M Value) (L : LoopI) (x : ((Option Addr × Nat × Nat)) × (Int) × (Int) × (Int) × Unit) : M Value :=
 M.bind (L (σ := (Int) × Unit) (ρ := (Unit) ⊕ ((Unit) ⊕ (Unit))) (fun s0_ =>
 let v2_ : Int := IntKind.i64.wrap ((IntKind.i64.wrap (2 * s0_.1)) + 1)
 M.ite (decide (v2_ ≥ x.2.2.1))
 (M.pure (.inr (.inl (()))))
 (f168c3 X L x s0_ v2_)) (x.2.1, ())) <| M.sum (fun (j37_ : Unit) =>
 M.pure (.tuple ⟨[]⟩)) (M.sum (fun (j38_ : Unit) =>
 M.pure (.tuple ⟨[]⟩)) (fun _ => M.stuck))

theorem e168 (X : Task → M Value) (L : LoopI) (x : ((Option Addr × Nat × Nat)) × (Int) × (Int) × (Int) × Unit) : evBody CC { call := X, loop := L } 168 (shsInj [(.cell .slice), (.cell (.int .i64)), (.cell (.int .i64)), (.cell (.int .i64))] x) = f168 X L x := by kernel_rfl

/-- slices.nextPowerOfTwo -/
def f169 (X : Task → M Value) (L : LoopI) (x : (Int) × Unit) : M Value :=
 M.callS (.one (.cell (.int .i64))) (X (.call 133 [(.int .u64 (IntKind.u64.wrap x.1))])) fun (r1_ : Int) =>
 M.guard (decide (0 ≤ r1_))
 (M.pure (.int .u64 (IntKind.u64.wrap (1 * 2 ^ (min (Int.toNat r1_) IntKind.u64.bits)))))

theorem e169 (X : Task → M Value) (L : LoopI) (x : (Int) × Unit) : evBody CC { call := X, loop := L } 169 (shsInj [(.cell (.int .i64))] x) = f169 X L x := by kernel_rfl

/-- (*slices.xorshift).Next -/
def f170c0 (X : Task → M Value) (L : LoopI) (x : (Option Addr) × Unit) (x8_ : Int) (v11_ : Int) : M (Value) :=
 M.deref x.1 fun a13_ =>
 M.store a13_ [(.int .u64 (bitsV .xor .u64 x8_ v11_))]
 (M.deref x.1 fun a14_ =>
 M.load (.cell (.int .u64)) 1 a14_ fun (x15_ : Int) =>
 M.deref x.1 fun a16_ =>
 M.load (.cell (.int .u64)) 1 a16_ fun (x17_ : Int) =>
 M.guard (decide (0 ≤ 17))
 (M.deref x.1 fun a20_ =>
 M.store a20_ [(.int .u64 (bitsV .xor .u64 x15_ (IntKind.u64.wrap (x17_ * 2 ^ (min (Int.toNat 17) IntKind.u64.bits)))))]
 (M.deref x.1 fun a21_ =>
 M.load (.cell (.int .u64)) 1 a21_ fun (x22_ : Int) =>
 M.pure (.int .u64 x22_))))
def f170c1 (X : Task → M Value) (L : LoopI) (x : (Option Addr) × Unit) (x1_ : Int) : M (Value) :=
 M.deref x.1 fun a2_ =>
 M.load (.cell (.int .u64)) 1 a2_ fun (x3_ : Int) =>
 M.guard (decide (0 ≤ 13))
 (M.deref x.1 fun a6_ =>
 M.store a6_ [(.int .u64 (bitsV .xor .u64 x1_ (IntKind.u64.wrap (x3_ * 2 ^ (min (Int.toNat 13) IntKind.u64.bits)))))]
 (M.deref x.1 fun a7_ =>
 M.load (.cell (.int .u64)) 1 a7_ fun (x8_ : Int) =>
 M.deref x.1 fun a9_ =>
 M.load (.cell (.int .u64)) 1 a9_ fun (x10_ : Int) =>
 M.guard (decide (0 ≤ 7))
 (f170c0 X L x x8_ (((x10_ : Int)).fdiv (2 ^ (min (Int.toNat 7) IntKind.u64.bits))))))
def f170 (X : Task → M Value) (L : LoopI) (x : (Option Addr) × Unit) : M Value :=
 M.deref x.1 fun a0_ =>
 M.load (.cell (.int .u64)) 1 a0_ fun (x1_ : Int) =>
 f170c1 X L x x1_

theorem e170 (X : Task → M Value) (L : LoopI) (x : (Option Addr) × Unit) : evBody CC { call := X, loop := L } 170 (shsInj [(.cell .ptr)] x) = f170 X L x := by kernel_rfl

/-- slices.medianAdjacentOrdered[int] -/
def f171 (X : Task → M Value) (L : LoopI) (x : ((Option Addr × Nat × Nat)) × (Int) × (Option Addr) × Unit) : M Value :=
 M.callS (.one (.cell (.int .i64))) (X (.call 172 [(.slice x.1.1 x.1.2.1 x.1.2.2), (.int .i64 (IntKind.i64.wrap (x.2.1 - 1))), (.int .i64 x.2.1), (.int .i64 (IntKind.i64.wrap (x.2.1 + 1))), (.pointer x.2.2.1)])) fun (r2_ : Int) =>
 M.pure (.int .i64 r2_)

theorem e171 (X : Task → M Value) (L : LoopI) (x : ((Option Addr × Nat × Nat)) × (Int) × (Option Addr) × Unit) : evBody CC { call := X, loop := L } 171 (shsInj [(.cell .slice), (.cell (.int .i64)), (.cell .ptr)] x) = f171 X L x := by kernel_rfl

/-- slices.medianOrdered[int] -/
def f172c0 (X : Task → M Value) (L : LoopI) (x : ((Option Addr × Nat × Nat)) × (Int) × (Int) × (Int) × (Option Addr) × Unit) : M (Value) :=
 M.callS (.tuple [(.cell (.int .i64)), (.cell (.int .i64))]) (X (.call 179 [(.slice x.1.1 x.1.2.1 x.1.2.2), (.int .i64 x.2.1), (.int .i64 x.2.2.1), (.pointer x.2.2.2.2.1)])) fun (r0_ : (Int) × (Int) × Unit) =>
 M.callS (.tuple [(.cell (.int .i64)), (.cell (.int .i64))]) (X (.call 179 [(.slice x.1.1 x.1.2.1 x.1.2.2), (.int .i64 r0_.2.1), (.int .i64 x.2.2.2.1), (.pointer x.2.2.2.2.1)])) fun (r1_ : (Int) × (Int) × Unit) =>
 M.callS (.tuple [(.cell (.int .i64)), (.cell (.int .i64))]) (X (.call 179 [(.slice x.1.1 x.1.2.1 x.1.2.2), (.int .i64 r0_.1), (.int .i64 r1_.1), (.pointer x.2.2.2.2.1)])) fun (r2_ : (Int) × (Int) × Unit) =>
 M.pure (.int .i64 r2_.2.1)
def f172 (X : Task → M Value) (L : LoopI) (x : ((Option Addr × Nat × Nat)) × (Int) × (Int) × (Int) × (Option Addr) × Unit) : M Value :=
 f172c0 X L x

theorem e172 (X : Task → M Value) (L : LoopI) (x : ((Option Addr × Nat × Nat)) × (Int) × (Int) × (Int) × (Option Addr) × Unit) : evBody CC { call := X, loop := L } 172 (shsInj [(.cell .slice), (.cell (.int .i64)), (.cell (.int .i64)), (.cell (.int .i64)), (.cell .ptr)] x) = f172 X L x := by kernel_rfl

/-- cmp.isNaN[int] -/
def f173 (X : Task → M Value) (L : LoopI) (x : (Int) × Unit) : M Value :=
 M.pure (.bool (!(x.1 == x.1)))

theorem e173 (X : Task → M Value) (L : LoopI) (x : (Int) × Unit) : evBody CC { call := X, loop := L } 173 (shsInj [(.cell (.int .i64))] x) = f173 X L x := by kernel_rfl

/-- hayrick/field.twice -/
def f174 (X : Task → M Value) (L : LoopI) (x : (Int) × Unit) : M Value :=
 M.guard (decide (0 ≤ 1))
 (let v0_ : Int := IntKind.u8.wrap (x.1 * 2 ^ (min (Int.toNat 1) IntKind.u8.bits))
 M.join (fun (j1_ : (Int) × Unit) =>
 M.pure (.int .u8 j1_.1)) fun go2_ =>
 M.ite (decide (x.1 ≥ 128))
 (go2_ ((bitsV .xor .u8 v0_ 29), ()))
 (go2_ (v0_, ())))

theorem e174 (X : Task → M Value) (L : LoopI) (x : (Int) × Unit) : evBody CC { call := X, loop := L } 174 (shsInj [(.cell (.int .u8))] x) = f174 X L x := by kernel_rfl

/-- hayrick/field.Log -/
def f175c0 (X : Task → M Value) (L : LoopI) (x : (Int) × Unit) (r1_ : (List Value) × (List Value) × Unit) : M (Value) :=
 M.new (.cells (Row.ofList (zc 281)) 281 false (0, 0) false) fun b2_ =>
 M.new (.cells (Row.ofList (zc 282)) 282 false (0, 0) false) fun b3_ =>
 cond (Nat.beq r1_.1.length 255) (M.store (Addr.mk b2_ 0 none) r1_.1
 (cond (Nat.beq r1_.2.1.length 256) (M.store (Addr.mk b3_ 0 none) r1_.2.1
 (M.guard (decide (0 ≤ x.1) && decide (x.1 < ((256 : Nat) : Int)))
 (M.load (.cell (.int .i64)) 1 ((Addr.mk b3_ 0 none).add ((Int.toNat x.1) * 1)) fun (x4_ : Int) =>
 M.pure (.tuple ⟨[(.int .i64 x4_), (.int .i64 0)]⟩)))) M.stuck)) M.stuck
def f175 (X : Task → M Value) (L : LoopI) (x : (Int) × Unit) : M Value :=
 M.ite (x.1 == 0)
 (M.pure (.tuple ⟨[(.int .i64 0), (.int .i64 1)]⟩))
 (M.callS (.tuple [.raw, .raw]) (X (.call 180 [])) fun (r1_ : (List Value) × (List Value) × Unit) =>
 f175c0 X L x r1_)

theorem e175 (X : Task → M Value) (L : LoopI) (x : (Int) × Unit) : evBody CC { call := X, loop := L } 175 (shsInj [(.cell (.int .u8))] x) = f175 X L x := by kernel_rfl

/-- hayrick/field.Exp -/
def f176c0 (X : Task → M Value) (L : LoopI) (x : (Int) × Unit) (r0_ : (List Value) × (List Value) × Unit) (b1_ : Nat) : M (Value) :=
 M.new (.cells (Row.ofList (zc 282)) 282 false (0, 0) false) fun b2_ =>
 cond (Nat.beq r0_.1.length 255) (M.store (Addr.mk b1_ 0 none) r0_.1
 (cond (Nat.beq r0_.2.1.length 256) (M.store (Addr.mk b2_ 0 none) r0_.2.1
 (M.callS (.one (.cell (.int .i64))) (X (.call 181 [(.int .i64 x.1)])) fun (r3_ : Int) =>
 M.guard (decide (0 ≤ r3_) && decide (r3_ < ((255 : Nat) : Int)))
 (M.load (.cell (.int .u8)) 1 ((Addr.mk b1_ 0 none).add ((Int.toNat r3_) * 1)) fun (x4_ : Int) =>
 M.pure (.int .u8 x4_)))) M.stuck)) M.stuck
def f176 (X : Task → M Value) (L : LoopI) (x : (Int) × Unit) : M Value :=
 M.callS (.tuple [.raw, .raw]) (X (.call 180 [])) fun (r0_ : (List Value) × (List Value) × Unit) =>
 M.new (.cells (Row.ofList (zc 281)) 281 false (0, 0) false) fun b1_ =>
 f176c0 X L x r0_ b1_

theorem e176 (X : Task → M Value) (L : LoopI) (x : (Int) × Unit) : evBody CC { call := X, loop := L } 176 (shsInj [(.cell (.int .i64))] x) = f176 X L x := by kernel_rfl

/-- hayrick/matrix.noughts -/
def f177c0 (X : Task → M Value) (L : LoopI) (x : (Int) × (Int) × Unit) (b0_ : Nat) (v1_ : Int) (s2_ : (Int) × Unit) : M (((Int) × Unit) ⊕ ((Unit) ⊕ (Unit))) :=
 M.ite (decide (s2_.1 < v1_))
 (M.guard (decide (0 ≤ x.2.1) && decide (x.2.1 ≤ x.2.1) && decide ((1 : Int) * x.2.1 ≤ 2 ^ 48))
 (M.new (.cells (Row.rep [(.int .u8 0)] (Int.toNat x.2.1)) 5 false (0, 0) false) fun b4_ =>
 M.guard (decide (0 ≤ s2_.1) && decide (s2_.1 < (((Int.toNat x.1) : Nat) : Int)))
 (M.store ((Addr.mk b0_ 0 none).add ((Int.toNat s2_.1) * 1)) [(.slice (some (Addr.mk b4_ 0 none)) (Int.toNat x.2.1) (Int.toNat x.2.1))]
 (M.pure (.inl ((IntKind.i64.wrap (s2_.1 + 1)), ()))))))
 (M.pure (.inr (.inl (()))))
def f177 (X : Task → M Value) (L : LoopI) (x : (Int) × (Int) × Unit) : M Value :=
 M.guard (decide (0 ≤ x.1) && decide (x.1 ≤ x.1) && decide ((24 : Int) * x.1 ≤ 2 ^ 48))
 (M.new (.cells (Row.rep [(.slice none 0 0)] (Int.toNat x.1)) 49 false (0, 0) false) fun b0_ =>
 M.bind (L (σ := (Int) × Unit) (ρ := (Unit) ⊕ (Unit)) (fun s2_ =>
 f177c0 X L x b0_ (((Int.toNat x.1) : Nat) : Int) s2_) (0, ())) <| M.sum (fun (j6_ : Unit) =>
 M.pure (.slice (some (Addr.mk b0_ 0 none)) (Int.toNat x.1) (Int.toNat x.1))) (fun _ => M.stuck))

theorem e177 (X : Task → M Value) (L : LoopI) (x : (Int) × (Int) × Unit) : evBody CC { call := X, loop := L } 177 (shsInj [(.cell (.int .i64)), (.cell (.int .i64))] x) = f177 X L x := by kernel_rfl

/-- hayrick/matrix.add -/
def f178c0 (X : Task → M Value) (L : LoopI) (x : ((Option Addr × Nat × Nat)) × ((Option Addr × Nat × Nat)) × (Int) × Unit) (s1_ : (Int) × Unit) (x4_ : Int) (a5_ : Addr) (x6_ : Int) : M (((Int) × Unit) ⊕ ((Unit) ⊕ (Unit))) :=
 M.callS (.one (.cell (.int .u8))) (X (.call 158 [(.int .u8 x4_), (.int .u8 x.2.2.1)])) fun (r7_ : Int) =>
 M.load (.cell (.int .u8)) 1 (a5_.add ((Int.toNat s1_.1) * 1)) fun (x8_ : Int) => cond (veqv (.int .u8 x8_) (.int .u8 x6_)) (M.callS (.one (.cell (.int .u8))) (X (.call 157 [(.int .u8 x6_), (.int .u8 r7_)])) fun (r9_ : Int) =>
 M.guard (decide (0 ≤ s1_.1) && decide (s1_.1 < ((x.1.2.1 : Nat) : Int)))
 (M.deref x.1.1 fun a10_ =>
 M.store (a10_.add ((Int.toNat s1_.1) * 1)) [(.int .u8 r9_)]
 (M.pure (.inl ((IntKind.i64.wrap (s1_.1 + 1)), ()))))) M.stuck
def f178c1 (X : Task → M Value) (L : LoopI) (x : ((Option Addr × Nat × Nat)) × ((Option Addr × Nat × Nat)) × (Int) × Unit) (v0_ : Int) : M (Value) :=
 M.bind (L (σ := (Int) × Unit) (ρ := (Unit) ⊕ (Unit)) (fun s1_ =>
 M.ite (decide (s1_.1 < v0_))
 (M.guard (decide (0 ≤ s1_.1) && decide (s1_.1 < ((x.2.1.2.1 : Nat) : Int)))
 (M.deref x.2.1.1 fun a3_ =>
 M.load (.cell (.int .u8)) 1 (a3_.add ((Int.toNat s1_.1) * 1)) fun (x4_ : Int) =>
 M.guard (decide (0 ≤ s1_.1) && decide (s1_.1 < ((x.1.2.1 : Nat) : Int)))
 (M.deref x.1.1 fun a5_ =>
 M.load (.cell (.int .u8)) 1 (a5_.add ((Int.toNat s1_.1) * 1)) fun (x6_ : Int) =>
 f178c0 X L x s1_ x4_ a5_ x6_)))
 (M.pure (.inr (.inl (()))))) (0, ())) <| M.sum (fun (j12_ : Unit) =>
 M.pure (.tuple ⟨[]⟩)) (fun _ => M.stuck)
def f178 (X : Task → M Value) (L : LoopI) (x : ((Option Addr × Nat × Nat)) × ((Option Addr × Nat × Nat)) × (Int) × Unit) : M Value :=
 f178c1 X L x ((x.2.1.2.1 : Nat) : Int)

theorem e178 (X : Task → M Value) (L : LoopI) (x : ((Option Addr × Nat × Nat)) × ((Option Addr × Nat × Nat)) × (Int) × Unit) : evBody CC { call := X, loop := L } 178 (shsInj [(.cell .slice), (.cell .slice), (.cell (.int .u8))] x) = f178 X L x := by kernel_rfl

/-- slices.order2Ordered[int] -/
def f179c0 (X : Task → M Value) (L : LoopI) (x : ((Option Addr × Nat × Nat)) × (Int) × (Int) × (Option Addr) × Unit) (x1_ : Int) : M (Value) :=
 M.guard (decide (0 ≤ x.2.1) && decide (x.2.1 < ((x.1.2.1 : Nat) : Int)))
 (M.deref x.1.1 fun a2_ =>
 M.load (.cell (.int .i64)) 1 (a2_.add ((Int.toNat x.2.1) * 1)) fun (x3_ : Int) =>
 M.callS (.one (.cell .bool)) (X (.call 152 [(.int .i64 x1_), (.int .i64 x3_)])) fun (r4_ : Bool) =>
 M.ite r4_
 (M.deref x.2.2.2.1 fun a5_ =>
 M.load (.cell (.int .i64)) 1 a5_ fun (x6_ : Int) =>
 M.deref x.2.2.2.1 fun a8_ =>
 M.store a8_ [(.int .i64 (IntKind.i64.wrap (x6_ + 1)))]
 (M.pure (.tuple ⟨[(.int .i64 x.2.2.1), (.int .i64 x.2.1)]⟩)))
 (M.pure (.tuple ⟨[(.int .i64 x.2.1), (.int .i64 x.2.2.1)]⟩)))
def f179 (X : Task → M Value) (L : LoopI) (x : ((Option Addr × Nat × Nat)) × (Int) × (Int) × (Option Addr) × Unit) : M Value :=
 M.guard (decide (0 ≤ x.2.2.1) && decide (x.2.2.1 < ((x.1.2.1 : Nat) : Int)))
 (M.deref x.1.1 fun a0_ =>
 M.load (.cell (.int .i64)) 1 (a0_.add ((Int.toNat x.2.2.1) * 1)) fun (x1_ : Int) =>
 f179c0 X L x x1_)

theorem e179 (X : Task → M Value) (L : LoopI) (x : ((Option Addr × Nat × Nat)) × (Int) × (Int) × (Option Addr) × Unit) : evBody CC { call := X, loop := L } 179 (shsInj [(.cell .slice), (.cell (.int .i64)), (.cell (.int .i64)), (.cell .ptr)] x) = f179 X L x := by kernel_rfl

/-- hayrick/field.tables -/
def f180c0 (X : Task → M Value) (L : LoopI) (b0_ : Nat) (b1_ : Nat) (s2_ : (Int) × (Int) × Unit) : M (((Int) × (Int) × Unit) ⊕ ((Unit) ⊕ (Unit))) :=
 M.ite (decide (s2_.2.1 < 255))
 (M.guard (decide (0 ≤ s2_.2.1) && decide (s2_.2.1 < ((255 : Nat) : Int)))
 (M.store ((Addr.mk b0_ 0 none).add ((Int.toNat s2_.2.1) * 1)) [(.int .u8 s2_.1)]
 (M.guard (decide (0 ≤ s2_.1) && decide (s2_.1 < ((256 : Nat) : Int)))
 (M.store ((Addr.mk b1_ 0 none).add ((Int.toNat s2_.1) * 1)) [(.int .i64 s2_.2.1)]
 (M.callS (.one (.cell (.int .u8))) (X (.call 174 [(.int .u8 s2_.1)])) fun (r4_ : Int) =>
 M.pure (.inl (r4_, (IntKind.i64.wrap (s2_.2.1 + 1)), ())))))))
 (M.pure (.inr (.inl (()))))
def f180c1 (X : Task → M Value) (L : LoopI) (b0_ : Nat) (b1_ : Nat) : M (Value) :=
 M.load .raw 255 (Addr.mk b0_ 0 none) fun (x7_ : List Value) =>
 M.load .raw 256 (Addr.mk b1_ 0 none) fun (x8_ : List Value) =>
 cond (Nat.beq x7_.length 255) (M.store (Addr.mk b0_ 0 none) x7_
 (M.load .raw 256 (Addr.mk b1_ 0 none) fun (x9_ : List Value) => cond (veqv (.agg ⟨x9_⟩) (.agg ⟨x8_⟩)) (cond (Nat.beq x8_.length 256) (M.store (Addr.mk b1_ 0 none) x8_
 (M.load .raw 255 (Addr.mk b0_ 0 none) fun (x10_ : List Value) =>
 M.load .raw 256 (Addr.mk b1_ 0 none) fun (x11_ : List Value) =>
 M.pure (.tuple ⟨[(.agg ⟨x10_⟩), (.agg ⟨x11_⟩)]⟩))) M.stuck) M.stuck)) M.stuck
def f180 (X : Task → M Value) (L : LoopI) (x : Unit) : M Value :=
 M.new (.cells (Row.ofList (zc 281)) 281 false (0, 0) false) fun b0_ =>
 M.new (.cells (Row.ofList (zc 282)) 282 false (0, 0) false) fun b1_ =>
 M.bind (L (σ := (Int) × (Int) × Unit) (ρ := (Unit) ⊕ (Unit)) (fun s2_ =>
 f180c0 X L b0_ b1_ s2_) (1, 0, ())) <| M.sum (fun (j6_ : Unit) =>
 f180c1 X L b0_ b1_) (fun _ => M.stuck)

theorem e180 (X : Task → M Value) (L : LoopI) (x : Unit) : evBody CC { call := X, loop := L } 180 (shsInj [] x) = f180 X L x := by kernel_rfl

/-- hayrick/field.around -/
def f181 (X : Task → M Value) (L : LoopI) (x : (Int) × Unit) : M Value :=
 M.guard (!(decide (255 = 0)))
 (M.guard (!(decide (255 = 0)))
 (M.pure (.int .i64 (((IntKind.i64.wrap (((x.1 : Int).tmod 255) + 255)) : Int).tmod 255))))

theorem e181 (X : Task → M Value) (L : LoopI) (x : (Int) × Unit) : evBody CC { call := X, loop := L } 181 (shsInj [(.cell (.int .i64))] x) = f181 X L x := by kernel_rfl

/-- (hayrick/store.node).block -/
def f200c0 (X : Task → M Value) (L : LoopI) (x1_ : Int × Int × Int × Int × Int × Int × Int × Int × Int × Int × Int × Unit) : M (Value) :=
 M.callS (.tuple [(.cell .slice), (.cell (.int .i64))]) (X (.call 89 [(.agg ⟨[(.int .i64 x1_.1), (.int .i64 x1_.2.1), (.int .i64 x1_.2.2.1), (.int .i64 x1_.2.2.2.1), (.int .u32 x1_.2.2.2.2.1), (.int .u32 x1_.2.2.2.2.2.1), (.int .u32 x1_.2.2.2.2.2.2.1), (.int .u32 x1_.2.2.2.2.2.2.2.1), (.int .u32 x1_.2.2.2.2.2.2.2.2.1), (.int .u32 x1_.2.2.2.2.2.2.2.2.2.1), (.int .u32 x1_.2.2.2.2.2.2.2.2.2.2.1)]⟩)])) fun (r2_ : ((Option Addr × Nat × Nat)) × (Int) × Unit) =>
 M.pure (.tuple ⟨[(.slice r2_.1.1 r2_.1.2.1 r2_.1.2.2), (.int .i64 r2_.2.1)]⟩)
def f200c1 (X : Task → M Value) (L : LoopI) (x : (Int × Int × Int × Int × Int × Int × Int × Int × Int × Int × Int × Unit) × Unit) : M (Value) :=
 M.new (.cells (Row.ofList [(.int .i64 x.1.1), (.int .i64 x.1.2.1), (.int .i64 x.1.2.2.1), (.int .i64 x.1.2.2.2.1), (.int .u32 x.1.2.2.2.2.1), (.int .u32 x.1.2.2.2.2.2.1), (.int .u32 x.1.2.2.2.2.2.2.1), (.int .u32 x.1.2.2.2.2.2.2.2.1), (.int .u32 x.1.2.2.2.2.2.2.2.2.1), (.int .u32 x.1.2.2.2.2.2.2.2.2.2.1), (.int .u32 x.1.2.2.2.2.2.2.2.2.2.2.1)]) 90 false (0, 0) false) fun b0_ =>
 M.load (.agg [(.int .i64), (.int .i64), (.int .i64), (.int .i64), (.int .u32), (.int .u32), (.int .u32), (.int .u32), (.int .u32), (.int .u32), (.int .u32)]) 11 ((Addr.mk b0_ 0 none).add 0) fun (x1_ : Int × Int × Int × Int × Int × Int × Int × Int × Int × Int × Int × Unit) =>
 f200c0 X L x1_
def f200 (X : Task → M Value) (L : LoopI) (x : (Int × Int × Int × Int × Int × Int × Int × Int × Int × Int × Int × Unit) × Unit) : M Value :=
 f200c1 X L x

theorem e200 (X : Task → M Value) (L : LoopI) (x : (Int × Int × Int × Int × Int × Int × Int × Int × Int × Int × Int × Unit) × Unit) : evBody CC { call := X, loop := L } 200 (shsInj [(.agg [(.int .i64), (.int .i64), (.int .i64), (.int .i64), (.int .u32), (.int .u32), (.int .u32), (.int .u32), (.int .u32), (.int .u32), (.int .u32)])] x) = f200 X L x := by kernel_rfl

/-- (hayrick/store.node).record -/
def f201c0 (X : Task → M Value) (L : LoopI) (b0_ : Nat) : M (Value) :=
 M.new (.cells (Row.ofList [(.int .i64 0), (.bool false), (.int .i64 0), (.int .i64 0)]) 58 false (0, 0) false) fun b1_ =>
 M.load (.cell (.int .i64)) 1 (((Addr.mk b0_ 0 none).add 0).add 0) fun (x2_ : Int) =>
 M.store (Addr.mk b1_ 0 none) [(.int .i64 3), (.bool false), (.int .i64 x2_), (.int .i64 0)]
 (M.load (.agg [(.int .i64), .bool, (.int .i64), (.int .i64)]) 4 (Addr.mk b1_ 0 none) fun (x3_ : Int × Bool × Int × Int × Unit) =>
 M.pure (.agg ⟨[(.int .i64 x3_.1), (.bool x3_.2.1), (.int .i64 x3_.2.2.1), (.int .i64 x3_.2.2.2.1)]⟩))
def f201 (X : Task → M Value) (L : LoopI) (x : (Int × Int × Int × Int × Int × Int × Int × Int × Int × Int × Int × Unit) × Unit) : M Value :=
 M.new (.cells (Row.ofList [(.int .i64 x.1.1), (.int .i64 x.1.2.1), (.int .i64 x.1.2.2.1), (.int .i64 x.1.2.2.2.1), (.int .u32 x.1.2.2.2.2.1), (.int .u32 x.1.2.2.2.2.2.1), (.int .u32 x.1.2.2.2.2.2.2.1), (.int .u32 x.1.2.2.2.2.2.2.2.1), (.int .u32 x.1.2.2.2.2.2.2.2.2.1), (.int .u32 x.1.2.2.2.2.2.2.2.2.2.1), (.int .u32 x.1.2.2.2.2.2.2.2.2.2.2.1)]) 90 false (0, 0) false) fun b0_ =>
 f201c0 X L b0_

theorem e201 (X : Task → M Value) (L : LoopI) (x : (Int × Int × Int × Int × Int × Int × Int × Int × Int × Int × Int × Unit) × Unit) : evBody CC { call := X, loop := L } 201 (shsInj [(.agg [(.int .i64), (.int .i64), (.int .i64), (.int .i64), (.int .u32), (.int .u32), (.int .u32), (.int .u32), (.int .u32), (.int .u32), (.int .u32)])] x) = f201 X L x := by kernel_rfl

/-- (hayrick/store.lineup).block -/
def f204c0 (X : Task → M Value) (L : LoopI) (b0_ : Nat) : M (Value) :=
 M.load (.cell .slice) 1 ((Addr.mk b0_ 0 none).add 1) fun (x1_ : (Option Addr × Nat × Nat)) =>
 M.ite (decide (((x1_.2.1 : Nat) : Int) > 28))
 (M.pure (.tuple ⟨[(.slice none 0 0), (.int .i64 1)]⟩))
 (M.load (.cell .slice) 1 ((Addr.mk b0_ 0 none).add 1) fun (x4_ : (Option Addr × Nat × Nat)) =>
 M.callS (.tuple [(.cell .slice), (.cell (.int .i64))]) (X (.call 206 [(.slice x4_.1 x4_.2.1 x4_.2.2)])) fun (r5_ : ((Option Addr × Nat × Nat)) × (Int) × Unit) =>
 M.pure (.tuple ⟨[(.slice r5_.1.1 r5_.1.2.1 r5_.1.2.2), (.int .i64 r5_.2.1)]⟩))
def f204 (X : Task → M Value) (L : LoopI) (x : (Int × (Option Addr × Nat × Nat) × Unit) × Unit) : M Value :=
 M.new (.cells (Row.ofList [(.int .i64 x.1.1), (.slice x.1.2.1.1 x.1.2.1.2.1 x.1.2.1.2.2)]) 98 false (0, 0) false) fun b0_ =>
 f204c0 X L b0_

theorem e204 (X : Task → M Value) (L : LoopI) (x : (Int × (Option Addr × Nat × Nat) × Unit) × Unit) : evBody CC { call := X, loop := L } 204 (shsInj [(.agg [(.int .i64), .slice])] x) = f204 X L x := by kernel_rfl

/-- (hayrick/store.lineup).record -/
def f205c0 (X : Task → M Value) (L : LoopI) (b0_ : Nat) : M (Value) :=
 M.new (.cells (Row.ofList [(.int .i64 0), (.bool false), (.int .i64 0), (.int .i64 0)]) 58 false (0, 0) false) fun b1_ =>
 M.load (.cell (.int .i64)) 1 ((Addr.mk b0_ 0 none).add 0) fun (x2_ : Int) =>
 M.store (Addr.mk b1_ 0 none) [(.int .i64 2), (.bool false), (.int .i64 x2_), (.int .i64 0)]
 (M.load (.agg [(.int .i64), .bool, (.int .i64), (.int .i64)]) 4 (Addr.mk b1_ 0 none) fun (x3_ : Int × Bool × Int × Int × Unit) =>
 M.pure (.agg ⟨[(.int .i64 x3_.1), (.bool x3_.2.1), (.int .i64 x3_.2.2.1), (.int .i64 x3_.2.2.2.1)]⟩))
def f205 (X : Task → M Value) (L : LoopI) (x : (Int × (Option Addr × Nat × Nat) × Unit) × Unit) : M Value :=
 M.new (.cells (Row.ofList [(.int .i64 x.1.1), (.slice x.1.2.1.1 x.1.2.1.2.1 x.1.2.1.2.2)]) 98 false (0, 0) false) fun b0_ =>
 f205c0 X L b0_

theorem e205 (X : Task → M Value) (L : LoopI) (x : (Int × (Option Addr × Nat × Nat) × Unit) × Unit) : evBody CC { call := X, loop := L } 205 (shsInj [(.agg [(.int .i64), .slice])] x) = f205 X L x := by kernel_rfl

/-- hayrick/points.Put -/
def f206c0 (X : Task → M Value) (L : LoopI) (s4_ : ((Option Addr × Nat × Nat)) × (Int) × Unit) (x7_ : Int) (v9_ : Int) : M ((((Option Addr × Nat × Nat)) × (Int) × Unit) ⊕ ((((Option Addr × Nat × Nat)) × Unit) ⊕ (Unit))) :=
 M.guard (decide (0 ≤ 16))
 (M.guard (decide (0 ≤ 8))
 (M.new (.cells (Row.ofList [(.int .u8 v9_), (.int .u8 (IntKind.u8.wrap (((x7_ : Int)).fdiv (2 ^ (min (Int.toNat 16) IntKind.u32.bits))))), (.int .u8 (IntKind.u8.wrap (((x7_ : Int)).fdiv (2 ^ (min (Int.toNat 8) IntKind.u32.bits))))), (.int .u8 (IntKind.u8.wrap x7_))]) 5 false (0, 0) false) fun b15_ =>
 M.append 5 1 1 s4_.1.1 s4_.1.2.1 s4_.1.2.2 (.slice (some (Addr.mk b15_ 0 none)) 4 4) fun a16_ n17_ c18_ =>
 M.pure (.inl ((a16_, n17_, c18_), (IntKind.i64.wrap (s4_.2.1 + 1)), ()))))
def f206c1 (X : Task → M Value) (L : LoopI) (x : ((Option Addr × Nat × Nat)) × Unit) (b2_ : Nat) (v3_ : Int) : M (Value) :=
 M.bind (L (σ := ((Option Addr × Nat × Nat)) × (Int) × Unit) (ρ := (((Option Addr × Nat × Nat)) × Unit) ⊕ (Unit)) (fun s4_ =>
 M.ite (decide (s4_.2.1 < v3_))
 (M.guard (decide (0 ≤ s4_.2.1) && decide (s4_.2.1 < ((x.1.2.1 : Nat) : Int)))
 (M.deref x.1.1 fun a6_ =>
 M.load (.cell (.int .u32)) 1 (a6_.add ((Int.toNat s4_.2.1) * 1)) fun (x7_ : Int) =>
 M.guard (decide (0 ≤ 24))
 (f206c0 X L s4_ x7_ (IntKind.u8.wrap (((x7_ : Int)).fdiv (2 ^ (min (Int.toNat 24) IntKind.u32.bits)))))))
 (M.pure (.inr (.inl (s4_.1, ()))))) (((some (Addr.mk b2_ 0 none)), (Int.toNat 0), (Int.toNat 112)), 0, ())) <| M.sum (fun (j20_ : ((Option Addr × Nat × Nat)) × Unit) =>
 M.guard (decide (0 ≤ 112) && decide (112 ≤ ((j20_.1.2.2 : Nat) : Int)))
 (let v21_ : Nat := (Int.toNat 112)
 M.guard (decide (0 ≤ 112) && decide (112 ≤ ((v21_ : Nat) : Int)))
 (M.pure (.tuple ⟨[(.slice (j20_.1.1.map (·.add (0 * 1))) ((Int.toNat 112) - 0) (v21_ - 0)), (.int .i64 0)]⟩)))) (fun _ => M.stuck)
def f206 (X : Task → M Value) (L : LoopI) (x : ((Option Addr × Nat × Nat)) × Unit) : M Value :=
 M.ite (decide (((x.1.2.1 : Nat) : Int) > 28))
 (M.pure (.tuple ⟨[(.slice none 0 0), (.int .i64 3)]⟩))
 (M.guard (decide (0 ≤ 0) && decide (0 ≤ 112) && decide ((1 : Int) * 112 ≤ 2 ^ 48))
 (M.new (.cells (Row.rep [(.int .u8 0)] (Int.toNat 112)) 5 false (0, 0) false) fun b2_ =>
 f206c1 X L x b2_ ((x.1.2.1 : Nat) : Int)))

theorem e206 (X : Task → M Value) (L : LoopI) (x : ((Option Addr × Nat × Nat)) × Unit) : evBody CC { call := X, loop := L } 206 (shsInj [(.cell .slice)] x) = f206 X L x := by kernel_rfl

/-- (hayrick/store.data).block -/
def f207 (X : Task → M Value) (L : LoopI) (x : (Int × Int × (Option Addr × Nat × Nat) × Unit) × Unit) : M Value :=
 M.new (.cells (Row.ofList [(.int .i64 x.1.1), (.int .i64 x.1.2.1), (.slice x.1.2.2.1.1 x.1.2.2.1.2.1 x.1.2.2.1.2.2)]) 100 false (0, 0) false) fun b0_ =>
 M.load (.cell .slice) 1 ((Addr.mk b0_ 0 none).add 2) fun (x1_ : (Option Addr × Nat × Nat)) =>
 M.pure (.tuple ⟨[(.slice x1_.1 x1_.2.1 x1_.2.2), (.int .i64 0)]⟩)

theorem e207 (X : Task → M Value) (L : LoopI) (x : (Int × Int × (Option Addr × Nat × Nat) × Unit) × Unit) : evBody CC { call := X, loop := L } 207 (shsInj [(.agg [(.int .i64), (.int .i64), .slice])] x) = f207 X L x := by kernel_rfl

/-- (hayrick/store.data).record -/
def f208c0 (X : Task → M Value) (L : LoopI) (b0_ : Nat) : M (Value) :=
 M.new (.cells (Row.ofList [(.int .i64 0), (.bool false), (.int .i64 0), (.int .i64 0)]) 58 false (0, 0) false) fun b1_ =>
 M.load (.cell (.int .i64)) 1 ((Addr.mk b0_ 0 none).add 0) fun (x2_ : Int) =>
 M.load (.cell (.int .i64)) 1 ((Addr.mk b0_ 0 none).add 1) fun (x3_ : Int) =>
 M.store (Addr.mk b1_ 0 none) [(.int .i64 1), (.bool false), (.int .i64 x2_), (.int .i64 x3_)]
 (M.load (.agg [(.int .i64), .bool, (.int .i64), (.int .i64)]) 4 (Addr.mk b1_ 0 none) fun (x4_ : Int × Bool × Int × Int × Unit) =>
 M.pure (.agg ⟨[(.int .i64 x4_.1), (.bool x4_.2.1), (.int .i64 x4_.2.2.1), (.int .i64 x4_.2.2.2.1)]⟩))
def f208 (X : Task → M Value) (L : LoopI) (x : (Int × Int × (Option Addr × Nat × Nat) × Unit) × Unit) : M Value :=
 M.new (.cells (Row.ofList [(.int .i64 x.1.1), (.int .i64 x.1.2.1), (.slice x.1.2.2.1.1 x.1.2.2.1.2.1 x.1.2.2.1.2.2)]) 100 false (0, 0) false) fun b0_ =>
 f208c0 X L b0_

theorem e208 (X : Task → M Value) (L : LoopI) (x : (Int × Int × (Option Addr × Nat × Nat) × Unit) × Unit) : evBody CC { call := X, loop := L } 208 (shsInj [(.agg [(.int .i64), (.int .i64), .slice])] x) = f208 X L x := by kernel_rfl

end
end Go.Proofs.YtcfnndmehnppnaaGreat.filesKnown
