/-
  What the functions that LogKnown reaches come to, part 1: each text, and that the reading gives it.
-/
import Derived.Test.YtcfnndmehnppnaaGreatLogKnownH
import Derived.KernelRfl
set_option linter.unusedVariables false
namespace Go.Proofs.YtcfnndmehnppnaaGreat.logKnown
open Go Go.Eng
noncomputable section
/-- slices.partitionOrdered[int] -/
def f154c0 (X : Task → M Value) (L : LoopI) (x : ((Option Addr × Nat × Nat)) × (Int) × (Int) × (Int) × Unit) (s8_ : (Int) × Unit) (go10_ : ((Bool) × Unit) → M (((Int) × Unit) ⊕ (((Int) × Unit) ⊕ (Unit)))) (v12_ : Bool) : M (((Int) × Unit) ⊕ (((Int) × Unit) ⊕ (Unit))) :=
 M.ite v12_
 (M.guard (decide (0 ≤ s8_.1) && decide (s8_.1 < ((x.1.2.1 : Nat) : Int)))
 (M.deref x.1.1 fun a13_ =>
 M.load (.cell (.int .i64)) 1 (a13_.add ((Int.toNat s8_.1) * 1)) fun (x14_ : Int) =>
 M.guard (decide (0 ≤ x.2.1) && decide (x.2.1 < ((x.1.2.1 : Nat) : Int)))
 (M.deref x.1.1 fun a15_ =>
 M.load (.cell (.int .i64)) 1 (a15_.add ((Int.toNat x.2.1) * 1)) fun (x16_ : Int) =>
 M.callS (.one (.cell .bool)) (X (.call 152 [(.int .i64 x14_), (.int .i64 x16_)])) fun (r17_ : Bool) =>
 go10_ (r17_, ()))))
 (go10_ (false, ()))
def f154c1 (X : Task → M Value) (L : LoopI) (x : ((Option Addr × Nat × Nat)) × (Int) × (Int) × (Int) × Unit) (s19_ : (Int) × Unit) (go21_ : ((Bool) × Unit) → M (((Int) × Unit) ⊕ (((Int) × Unit) ⊕ (Unit)))) (v23_ : Bool) : M (((Int) × Unit) ⊕ (((Int) × Unit) ⊕ (Unit))) :=
 M.ite v23_
 (M.guard (decide (0 ≤ s19_.1) && decide (s19_.1 < ((x.1.2.1 : Nat) : Int)))
 (M.deref x.1.1 fun a24_ =>
 M.load (.cell (.int .i64)) 1 (a24_.add ((Int.toNat s19_.1) * 1)) fun (x25_ : Int) =>
 M.guard (decide (0 ≤ x.2.1) && decide (x.2.1 < ((x.1.2.1 : Nat) : Int)))
 (M.deref x.1.1 fun a26_ =>
 M.load (.cell (.int .i64)) 1 (a26_.add ((Int.toNat x.2.1) * 1)) fun (x27_ : Int) =>
 M.callS (.one (.cell .bool)) (X (.call 152 [(.int .i64 x25_), (.int .i64 x27_)])) fun (r28_ : Bool) =>
 go21_ ((!r28_), ()))))
 (go21_ (false, ()))
def f154c2 (X : Task → M Value) (L : LoopI) (x : ((Option Addr × Nat × Nat)) × (Int) × (Int) × (Int) × Unit) (j30_ : (Int) × Unit) (x33_ : Int) : M (Value) :=
 M.guard (decide (0 ≤ j30_.1) && decide (j30_.1 < ((x.1.2.1 : Nat) : Int)))
 (M.deref x.1.1 fun a34_ =>
 M.load (.cell (.int .i64)) 1 (a34_.add ((Int.toNat j30_.1) * 1)) fun (x35_ : Int) =>
 M.guard (decide (0 ≤ j30_.1) && decide (j30_.1 < ((x.1.2.1 : Nat) : Int)))
 (M.deref x.1.1 fun a36_ =>
 M.store (a36_.add ((Int.toNat j30_.1) * 1)) [(.int .i64 x33_)]
 (M.guard (decide (0 ≤ x.2.1) && decide (x.2.1 < ((x.1.2.1 : Nat) : Int)))
 (M.deref x.1.1 fun a37_ =>
 M.store (a37_.add ((Int.toNat x.2.1) * 1)) [(.int .i64 x35_)]
 (M.pure (.tuple ⟨[(.int .i64 j30_.1), (.bool true)]⟩))))))
def f154c3 (X : Task → M Value) (L : LoopI) (x : ((Option Addr × Nat × Nat)) × (Int) × (Int) × (Int) × Unit) (s47_ : (Int) × Unit) (go49_ : ((Bool) × Unit) → M (((Int) × Unit) ⊕ (((Int) × Unit) ⊕ (Unit)))) (v51_ : Bool) : M (((Int) × Unit) ⊕ (((Int) × Unit) ⊕ (Unit))) :=
 M.ite v51_
 (M.guard (decide (0 ≤ s47_.1) && decide (s47_.1 < ((x.1.2.1 : Nat) : Int)))
 (M.deref x.1.1 fun a52_ =>
 M.load (.cell (.int .i64)) 1 (a52_.add ((Int.toNat s47_.1) * 1)) fun (x53_ : Int) =>
 M.guard (decide (0 ≤ x.2.1) && decide (x.2.1 < ((x.1.2.1 : Nat) : Int)))
 (M.deref x.1.1 fun a54_ =>
 M.load (.cell (.int .i64)) 1 (a54_.add ((Int.toNat x.2.1) * 1)) fun (x55_ : Int) =>
 M.callS (.one (.cell .bool)) (X (.call 152 [(.int .i64 x53_), (.int .i64 x55_)])) fun (r56_ : Bool) =>
 go49_ (r56_, ()))))
 (go49_ (false, ()))
def f154c4 (X : Task → M Value) (L : LoopI) (x : ((Option Addr × Nat × Nat)) × (Int) × (Int) × (Int) × Unit) (s58_ : (Int) × Unit) (go60_ : ((Bool) × Unit) → M (((Int) × Unit) ⊕ (((Int) × Unit) ⊕ (Unit)))) (v62_ : Bool) : M (((Int) × Unit) ⊕ (((Int) × Unit) ⊕ (Unit))) :=
 M.ite v62_
 (M.guard (decide (0 ≤ s58_.1) && decide (s58_.1 < ((x.1.2.1 : Nat) : Int)))
 (M.deref x.1.1 fun a63_ =>
 M.load (.cell (.int .i64)) 1 (a63_.add ((Int.toNat s58_.1) * 1)) fun (x64_ : Int) =>
 M.guard (decide (0 ≤ x.2.1) && decide (x.2.1 < ((x.1.2.1 : Nat) : Int)))
 (M.deref x.1.1 fun a65_ =>
 M.load (.cell (.int .i64)) 1 (a65_.add ((Int.toNat x.2.1) * 1)) fun (x66_ : Int) =>
 M.callS (.one (.cell .bool)) (X (.call 152 [(.int .i64 x64_), (.int .i64 x66_)])) fun (r67_ : Bool) =>
 go60_ ((!r67_), ()))))
 (go60_ (false, ()))
def f154c5 (X : Task → M Value) (L : LoopI) (x : ((Option Addr × Nat × Nat)) × (Int) × (Int) × (Int) × Unit) (j57_ : (Int) × Unit) (j69_ : (Int) × Unit) (x72_ : Int) (a73_ : Addr) : M (((Int) × (Int) × Unit) ⊕ (((Int) × Unit) ⊕ (Unit))) :=
 M.load (.cell (.int .i64)) 1 (a73_.add ((Int.toNat j57_.1) * 1)) fun (x74_ : Int) =>
 M.guard (decide (0 ≤ j57_.1) && decide (j57_.1 < ((x.1.2.1 : Nat) : Int)))
 (M.deref x.1.1 fun a75_ =>
 M.store (a75_.add ((Int.toNat j57_.1) * 1)) [(.int .i64 x72_)]
 (M.guard (decide (0 ≤ j69_.1) && decide (j69_.1 < ((x.1.2.1 : Nat) : Int)))
 (M.deref x.1.1 fun a76_ =>
 M.store (a76_.add ((Int.toNat j69_.1) * 1)) [(.int .i64 x74_)]
 (M.pure (.inl ((IntKind.i64.wrap (j57_.1 + 1)), (IntKind.i64.wrap (j69_.1 - 1)), ()))))))
def f154c6 (X : Task → M Value) (L : LoopI) (x : ((Option Addr × Nat × Nat)) × (Int) × (Int) × (Int) × Unit) (s46_ : (Int) × (Int) × Unit) (j57_ : (Int) × Unit) : M (((Int) × (Int) × Unit) ⊕ (((Int) × Unit) ⊕ (Unit))) :=
 M.bind (L (σ := (Int) × Unit) (ρ := ((Int) × Unit) ⊕ (Unit)) (fun s58_ =>
 M.join (fun (j59_ : (Bool) × Unit) =>
 M.ite j59_.1
 (M.pure (.inl ((IntKind.i64.wrap (s58_.1 - 1)), ())))
 (M.pure (.inr (.inl (s58_.1, ()))))) fun go60_ =>
 f154c4 X L x s58_ go60_ (decide (j57_.1 ≤ s58_.1))) (s46_.2.1, ())) <| M.sum (fun (j69_ : (Int) × Unit) =>
 M.ite (decide (j57_.1 > j69_.1))
 (M.pure (.inr (.inl (j69_.1, ()))))
 (M.guard (decide (0 ≤ j69_.1) && decide (j69_.1 < ((x.1.2.1 : Nat) : Int)))
 (M.deref x.1.1 fun a71_ =>
 M.load (.cell (.int .i64)) 1 (a71_.add ((Int.toNat j69_.1) * 1)) fun (x72_ : Int) =>
 M.guard (decide (0 ≤ j57_.1) && decide (j57_.1 < ((x.1.2.1 : Nat) : Int)))
 (M.deref x.1.1 fun a73_ =>
 f154c5 X L x j57_ j69_ x72_ a73_)))) (fun _ => M.stuck)
def f154c7 (X : Task → M Value) (L : LoopI) (x : ((Option Addr × Nat × Nat)) × (Int) × (Int) × (Int) × Unit) (j79_ : (Int) × Unit) (x81_ : Int) : M (Value) :=
 M.guard (decide (0 ≤ j79_.1) && decide (j79_.1 < ((x.1.2.1 : Nat) : Int)))
 (M.deref x.1.1 fun a82_ =>
 M.load (.cell (.int .i64)) 1 (a82_.add ((Int.toNat j79_.1) * 1)) fun (x83_ : Int) =>
 M.guard (decide (0 ≤ j79_.1) && decide (j79_.1 < ((x.1.2.1 : Nat) : Int)))
 (M.deref x.1.1 fun a84_ =>
 M.store (a84_.add ((Int.toNat j79_.1) * 1)) [(.int .i64 x81_)]
 (M.guard (decide (0 ≤ x.2.1) && decide (x.2.1 < ((x.1.2.1 : Nat) : Int)))
 (M.deref x.1.1 fun a85_ =>
 M.store (a85_.add ((Int.toNat x.2.1) * 1)) [(.int .i64 x83_)]
 (M.pure (.tuple ⟨[(.int .i64 j79_.1), (.bool false)]⟩))))))
def f154c8 (X : Task → M Value) (L : LoopI) (x : ((Option Addr × Nat × Nat)) × (Int) × (Int) × (Int) × Unit) (v44_ : Int) (v45_ : Int) : M (Value) :=
 M.bind (L (σ := (Int) × (Int) × Unit) (ρ := ((Int) × Unit) ⊕ (Unit)) (fun s46_ =>
 M.bind (L (σ := (Int) × Unit) (ρ := ((Int) × Unit) ⊕ (Unit)) (fun s47_ =>
 M.join (fun (j48_ : (Bool) × Unit) =>
 M.ite j48_.1
 (M.pure (.inl ((IntKind.i64.wrap (s47_.1 + 1)), ())))
 (M.pure (.inr (.inl (s47_.1, ()))))) fun go49_ =>
 f154c3 X L x s47_ go49_ (decide (s47_.1 ≤ s46_.2.1))) (s46_.1, ())) <| M.sum (fun (j57_ : (Int) × Unit) =>
 f154c6 X L x s46_ j57_) (fun _ => M.stuck)) (v44_, v45_, ())) <| M.sum (fun (j79_ : (Int) × Unit) =>
 M.guard (decide (0 ≤ x.2.1) && decide (x.2.1 < ((x.1.2.1 : Nat) : Int)))
 (M.deref x.1.1 fun a80_ =>
 M.load (.cell (.int .i64)) 1 (a80_.add ((Int.toNat x.2.1) * 1)) fun (x81_ : Int) =>
 f154c7 X L x j79_ x81_)) (fun _ => M.stuck)
def f154c9 (X : Task → M Value) (L : LoopI) (x : ((Option Addr × Nat × Nat)) × (Int) × (Int) × (Int) × Unit) (j18_ : (Int) × Unit) (j30_ : (Int) × Unit) (x39_ : Int) : M (Value) :=
 M.guard (decide (0 ≤ j18_.1) && decide (j18_.1 < ((x.1.2.1 : Nat) : Int)))
 (M.deref x.1.1 fun a40_ =>
 M.load (.cell (.int .i64)) 1 (a40_.add ((Int.toNat j18_.1) * 1)) fun (x41_ : Int) =>
 M.guard (decide (0 ≤ j18_.1) && decide (j18_.1 < ((x.1.2.1 : Nat) : Int)))
 (M.deref x.1.1 fun a42_ =>
 M.store (a42_.add ((Int.toNat j18_.1) * 1)) [(.int .i64 x39_)]
 (M.guard (decide (0 ≤ j30_.1) && decide (j30_.1 < ((x.1.2.1 : Nat) : Int)))
 (M.deref x.1.1 fun a43_ =>
 M.store (a43_.add ((Int.toNat j30_.1) * 1)) [(.int .i64 x41_)]
 (f154c8 X L x (IntKind.i64.wrap (j18_.1 + 1)) (IntKind.i64.wrap (j30_.1 - 1)))))))
def f154c10 (X : Task → M Value) (L : LoopI) (x : ((Option Addr × Nat × Nat)) × (Int) × (Int) × (Int) × Unit) (v7_ : Int) (j18_ : (Int) × Unit) : M (Value) :=
 M.bind (L (σ := (Int) × Unit) (ρ := ((Int) × Unit) ⊕ (Unit)) (fun s19_ =>
 M.join (fun (j20_ : (Bool) × Unit) =>
 M.ite j20_.1
 (M.pure (.inl ((IntKind.i64.wrap (s19_.1 - 1)), ())))
 (M.pure (.inr (.inl (s19_.1, ()))))) fun go21_ =>
 f154c1 X L x s19_ go21_ (decide (j18_.1 ≤ s19_.1))) (v7_, ())) <| M.sum (fun (j30_ : (Int) × Unit) =>
 M.ite (decide (j18_.1 > j30_.1))
 (M.guard (decide (0 ≤ x.2.1) && decide (x.2.1 < ((x.1.2.1 : Nat) : Int)))
 (M.deref x.1.1 fun a32_ =>
 M.load (.cell (.int .i64)) 1 (a32_.add ((Int.toNat x.2.1) * 1)) fun (x33_ : Int) =>
 f154c2 X L x j30_ x33_))
 (M.guard (decide (0 ≤ j30_.1) && decide (j30_.1 < ((x.1.2.1 : Nat) : Int)))
 (M.deref x.1.1 fun a38_ =>
 M.load (.cell (.int .i64)) 1 (a38_.add ((Int.toNat j30_.1) * 1)) fun (x39_ : Int) =>
 f154c9 X L x j18_ j30_ x39_))) (fun _ => M.stuck)
def f154c11 (X : Task → M Value) (L : LoopI) (x : ((Option Addr × Nat × Nat)) × (Int) × (Int) × (Int) × Unit) (x3_ : Int) (a5_ : Addr) : M (Value) :=
 M.store (a5_.add ((Int.toNat x.2.2.2.1) * 1)) [(.int .i64 x3_)]
 (let v7_ : Int := IntKind.i64.wrap (x.2.2.1 - 1)
 M.bind (L (σ := (Int) × Unit) (ρ := ((Int) × Unit) ⊕ (Unit)) (fun s8_ =>
 M.join (fun (j9_ : (Bool) × Unit) =>
 M.ite j9_.1
 (M.pure (.inl ((IntKind.i64.wrap (s8_.1 + 1)), ())))
 (M.pure (.inr (.inl (s8_.1, ()))))) fun go10_ =>
 f154c0 X L x s8_ go10_ (decide (s8_.1 ≤ v7_))) ((IntKind.i64.wrap (x.2.1 + 1)), ())) <| M.sum (fun (j18_ : (Int) × Unit) =>
 f154c10 X L x v7_ j18_) (fun _ => M.stuck))
def f154c12 (X : Task → M Value) (L : LoopI) (x : ((Option Addr × Nat × Nat)) × (Int) × (Int) × (Int) × Unit) (a0_ : Addr) : M (Value) :=
 M.load (.cell (.int .i64)) 1 (a0_.add ((Int.toNat x.2.2.2.1) * 1)) fun (x1_ : Int) =>
 M.guard (decide (0 ≤ x.2.1) && decide (x.2.1 < ((x.1.2.1 : Nat) : Int)))
 (M.deref x.1.1 fun a2_ =>
 M.load (.cell (.int .i64)) 1 (a2_.add ((Int.toNat x.2.1) * 1)) fun (x3_ : Int) =>
 M.guard (decide (0 ≤ x.2.1) && decide (x.2.1 < ((x.1.2.1 : Nat) : Int)))
 (M.deref x.1.1 fun a4_ =>
 M.store (a4_.add ((Int.toNat x.2.1) * 1)) [(.int .i64 x1_)]
 (M.guard (decide (0 ≤ x.2.2.2.1) && decide (x.2.2.2.1 < ((x.1.2.1 : Nat) : Int)))
 (M.deref x.1.1 fun a5_ =>
 f154c11 X L x x3_ a5_))))
def f154 (X : Task → M Value) (L : LoopI) (x : ((Option Addr × Nat × Nat)) × (Int) × (Int) × (Int) × Unit) : M Value :=
 M.guard (decide (0 ≤ x.2.2.2.1) && decide (x.2.2.2.1 < ((x.1.2.1 : Nat) : Int)))
 (M.deref x.1.1 fun a0_ =>
 f154c12 X L x a0_)

theorem e154 (X : Task → M Value) (L : LoopI) (x : ((Option Addr × Nat × Nat)) × (Int) × (Int) × (Int) × Unit) : evBody CC { call := X, loop := L } 154 (shsInj [(.cell .slice), (.cell (.int .i64)), (.cell (.int .i64)), (.cell (.int .i64))] x) = f154 X L x := by kernel_rfl

/-- math/bits.Len32 -/
def f155c0 (X : Task → M Value) (L : LoopI) (x : (Int) × Unit) : M (Value) :=
 M.join (fun (j0_ : (Int) × (Int) × Unit) =>
 M.join (fun (j2_ : (Int) × (Int) × Unit) =>
 let v4_ : Int := IntKind.u8.wrap j2_.1
 M.guard (decide (0 ≤ v4_) && decide (v4_ < (st3.size : Int)))
 (M.pure (.int .i64 (IntKind.i64.wrap (j2_.2.1 + (IntKind.i64.wrap (byteAt st3 v4_))))))) fun go3_ =>
 M.ite (decide (j0_.1 ≥ 256))
 (M.guard (decide (0 ≤ 8))
 (go3_ ((((j0_.1 : Int)).fdiv (2 ^ (min (Int.toNat 8) IntKind.u32.bits))), (IntKind.i64.wrap (j0_.2.1 + 8)), ())))
 (go3_ (j0_.1, j0_.2.1, ()))) fun go1_ =>
 M.ite (decide (x.1 ≥ 65536))
 (M.guard (decide (0 ≤ 16))
 (go1_ ((((x.1 : Int)).fdiv (2 ^ (min (Int.toNat 16) IntKind.u32.bits))), 16, ())))
 (go1_ (x.1, 0, ()))
def f155 (X : Task → M Value) (L : LoopI) (x : (Int) × Unit) : M Value :=
 f155c0 X L x

theorem e155 (X : Task → M Value) (L : LoopI) (x : (Int) × Unit) : evBody CC { call := X, loop := L } 155 (shsInj [(.cell (.int .u32))] x) = f155 X L x := by kernel_rfl

/-- math/bits.Len64 -/
def f156c0 (X : Task → M Value) (L : LoopI) (j0_ : (Int) × (Int) × Unit) : M (Value) :=
 M.join (fun (j2_ : (Int) × (Int) × Unit) =>
 M.join (fun (j4_ : (Int) × (Int) × Unit) =>
 let v6_ : Int := IntKind.u8.wrap j4_.1
 M.guard (decide (0 ≤ v6_) && decide (v6_ < (st3.size : Int)))
 (M.pure (.int .i64 (IntKind.i64.wrap (j4_.2.1 + (IntKind.i64.wrap (byteAt st3 v6_))))))) fun go5_ =>
 M.ite (decide (j2_.1 ≥ 256))
 (M.guard (decide (0 ≤ 8))
 (go5_ ((((j2_.1 : Int)).fdiv (2 ^ (min (Int.toNat 8) IntKind.u64.bits))), (IntKind.i64.wrap (j2_.2.1 + 8)), ())))
 (go5_ (j2_.1, j2_.2.1, ()))) fun go3_ =>
 M.ite (decide (j0_.1 ≥ 65536))
 (M.guard (decide (0 ≤ 16))
 (go3_ ((((j0_.1 : Int)).fdiv (2 ^ (min (Int.toNat 16) IntKind.u64.bits))), (IntKind.i64.wrap (j0_.2.1 + 16)), ())))
 (go3_ (j0_.1, j0_.2.1, ()))
def f156 (X : Task → M Value) (L : LoopI) (x : (Int) × Unit) : M Value :=
 M.join (fun (j0_ : (Int) × (Int) × Unit) =>
 f156c0 X L j0_) fun go1_ =>
 M.ite (decide (x.1 ≥ 4294967296))
 (M.guard (decide (0 ≤ 32))
 (go1_ ((((x.1 : Int)).fdiv (2 ^ (min (Int.toNat 32) IntKind.u64.bits))), 32, ())))
 (go1_ (x.1, 0, ()))

theorem e156 (X : Task → M Value) (L : LoopI) (x : (Int) × Unit) : evBody CC { call := X, loop := L } 156 (shsInj [(.cell (.int .u64))] x) = f156 X L x := by kernel_rfl

/-- hayrick/field.Add -/
def f157 (X : Task → M Value) (L : LoopI) (x : (Int) × (Int) × Unit) : M Value :=
 M.pure (.int .u8 (bitsV .xor .u8 x.1 x.2.1))

theorem e157 (X : Task → M Value) (L : LoopI) (x : (Int) × (Int) × Unit) : evBody CC { call := X, loop := L } 157 (shsInj [(.cell (.int .u8)), (.cell (.int .u8))] x) = f157 X L x := by kernel_rfl

/-- hayrick/field.Mul -/
def f158c0 (X : Task → M Value) (L : LoopI) (x : (Int) × (Int) × Unit) : M (Value) :=
 M.bind (L (σ := (Int) × (Int) × (Int) × Unit) (ρ := ((Int) × Unit) ⊕ (Unit)) (fun s0_ =>
 M.ite (decide (s0_.2.1 > 0))
 (M.join (fun (j2_ : (Int) × Unit) =>
 M.callS (.one (.cell (.int .u8))) (X (.call 174 [(.int .u8 s0_.1)])) fun (r4_ : Int) =>
 M.guard (decide (0 ≤ 1))
 (M.pure (.inl (r4_, (((s0_.2.1 : Int)).fdiv (2 ^ (min (Int.toNat 1) IntKind.u8.bits))), j2_.1, ())))) fun go3_ =>
 M.ite ((bitsV .and .u8 s0_.2.1 1) == 1)
 (go3_ ((bitsV .xor .u8 s0_.2.2.1 s0_.1), ()))
 (go3_ (s0_.2.2.1, ())))
 (M.pure (.inr (.inl (s0_.2.2.1, ()))))) (x.1, x.2.1, 0, ())) <| M.sum (fun (j9_ : (Int) × Unit) =>
 M.pure (.int .u8 j9_.1)) (fun _ => M.stuck)
def f158 (X : Task → M Value) (L : LoopI) (x : (Int) × (Int) × Unit) : M Value :=
 f158c0 X L x

theorem e158 (X : Task → M Value) (L : LoopI) (x : (Int) × (Int) × Unit) : evBody CC { call := X, loop := L } 158 (shsInj [(.cell (.int .u8)), (.cell (.int .u8))] x) = f158 X L x := by kernel_rfl

/-- hayrick/field.Inv -/
def f159 (X : Task → M Value) (L : LoopI) (x : (Int) × Unit) : M Value :=
 M.callS (.tuple [(.cell (.int .i64)), (.cell (.int .i64))]) (X (.call 175 [(.int .u8 x.1)])) fun (r0_ : (Int) × (Int) × Unit) =>
 M.ite (!(r0_.2.1 == 0))
 (M.pure (.tuple ⟨[(.int .u8 0), (.int .i64 r0_.2.1)]⟩))
 (M.callS (.one (.cell (.int .u8))) (X (.call 176 [(.int .i64 (IntKind.i64.wrap (0 - r0_.1)))])) fun (r3_ : Int) =>
 M.pure (.tuple ⟨[(.int .u8 r3_), (.int .i64 0)]⟩))

theorem e159 (X : Task → M Value) (L : LoopI) (x : (Int) × Unit) : evBody CC { call := X, loop := L } 159 (shsInj [(.cell (.int .u8))] x) = f159 X L x := by kernel_rfl

/-- hayrick/stamp.Put -/
def f160c0 (X : Task → M Value) (L : LoopI) (x : (Int) × ((Option Addr × Nat × Nat)) × Unit) (b2_ : Nat) : M (Value) :=
 M.bind (L (σ := (Int) × Unit) (ρ := (Unit) ⊕ (Unit)) (fun s3_ =>
 M.ite (decide (s3_.1 < 8))
 (let v6_ : Int := IntKind.i64.wrap (8 * (IntKind.i64.wrap (7 - s3_.1)))
 M.guard (decide (0 ≤ v6_))
 (M.guard (decide (0 ≤ s3_.1) && decide (s3_.1 < ((64 : Nat) : Int)))
 (M.store ((Addr.mk b2_ 0 none).add ((Int.toNat s3_.1) * 1)) [(.int .u8 (IntKind.u8.wrap (((x.1 : Int)).fdiv (2 ^ (min (Int.toNat v6_) IntKind.u64.bits)))))]
 (M.pure (.inl ((IntKind.i64.wrap (s3_.1 + 1)), ()))))))
 (M.pure (.inr (.inl (()))))) (0, ())) <| M.sum (fun (j10_ : Unit) =>
 M.guard (decide (0 ≤ 8) && decide (8 ≤ ((64 : Nat) : Int)))
 (let v11_ : Nat := (Int.toNat 8)
 M.copy 1 (some ((Addr.mk b2_ 0 none).add (v11_ * 1))) (64 - v11_) (.slice x.2.1.1 x.2.1.2.1 x.2.1.2.2) fun m12_ =>
 M.pure (.tuple ⟨[(.slice (some ((Addr.mk b2_ 0 none).add (0 * 1))) (64 - 0) (64 - 0)), (.int .i64 0)]⟩))) (fun _ => M.stuck)
def f160 (X : Task → M Value) (L : LoopI) (x : (Int) × ((Option Addr × Nat × Nat)) × Unit) : M Value :=
 M.ite (decide (((x.2.1.2.1 : Nat) : Int) > 56))
 (M.pure (.tuple ⟨[(.slice none 0 0), (.int .i64 3)]⟩))
 (M.new (.cells (Row.ofList (zc 182)) 182 false (0, 0) false) fun b2_ =>
 f160c0 X L x b2_)

theorem e160 (X : Task → M Value) (L : LoopI) (x : (Int) × ((Option Addr × Nat × Nat)) × Unit) : evBody CC { call := X, loop := L } 160 (shsInj [(.cell (.int .u64)), (.cell .slice)] x) = f160 X L x := by kernel_rfl

/-- (*hayrick/array.Array).ready -/
def f161c0 (X : Task → M Value) (L : LoopI) (x : (Option Addr) × (Int) × (Int) × Unit) : M (Value) :=
 M.join (fun (j4_ : (Bool) × Unit) =>
 M.ite j4_.1
 (M.pure (.int .i64 6))
 (M.callS (.one (.cell .bool)) (X (.call 124 [(.pointer x.1), (.int .i64 x.2.1)])) fun (r6_ : Bool) =>
 M.ite (!r6_)
 (M.pure (.int .i64 9))
 (M.pure (.int .i64 0)))) fun go5_ =>
 M.ite (decide (x.2.1 < 0))
 (go5_ (true, ()))
 (M.deref x.1 fun a9_ =>
 M.load (.cell .slice) 1 (a9_.add 1) fun (x10_ : (Option Addr × Nat × Nat)) =>
 M.ite (decide (x.2.1 ≥ ((x10_.2.1 : Nat) : Int)))
 (go5_ (true, ()))
 (M.ite (decide (x.2.2.1 < 0))
 (go5_ (true, ()))
 (M.deref x.1 fun a14_ =>
 M.load (.cell (.int .i64)) 1 (a14_.add 0) fun (x15_ : Int) =>
 go5_ ((decide (x.2.2.1 ≥ x15_)), ()))))
def f161 (X : Task → M Value) (L : LoopI) (x : (Option Addr) × (Int) × (Int) × Unit) : M Value :=
 M.join (fun (j0_ : (Bool) × Unit) =>
 M.ite j0_.1
 (M.pure (.int .i64 2))
 (M.deref x.1 fun a2_ =>
 M.load (.cell .bool) 1 (a2_.add 4) fun (x3_ : Bool) =>
 M.ite x3_
 (M.pure (.int .i64 8))
 (f161c0 X L x))) fun go1_ =>
 M.eqPtr x.1 none fun (q17_ : Bool) =>
 M.ite q17_
 (go1_ (true, ()))
 (M.deref x.1 fun a18_ =>
 M.load (.cell (.int .i64)) 1 (a18_.add 0) fun (x19_ : Int) =>
 go1_ ((x19_ == 0), ()))

theorem e161 (X : Task → M Value) (L : LoopI) (x : (Option Addr) × (Int) × (Int) × Unit) : evBody CC { call := X, loop := L } 161 (shsInj [(.cell .ptr), (.cell (.int .i64)), (.cell (.int .i64))] x) = f161 X L x := by kernel_rfl

/-- (*hayrick/array.Array).Read -/
def f162c0 (X : Task → M Value) (L : LoopI) (x : (Option Addr) × (Int) × (Int) × Unit) (b8_ : Nat) (go15_ : (Unit) → M (((Int) × Unit) ⊕ ((Unit) ⊕ (Unit)))) (x18_ : List Value) (b19_ : Nat) : M (((Int) × Unit) ⊕ ((Unit) ⊕ (Unit))) :=
 cond (Nat.beq x18_.length 66) (M.store (Addr.mk b19_ 0 none) x18_
 (M.join (fun (j20_ : (Bool) × Unit) =>
 M.ite j20_.1
 (M.load .raw 64 ((Addr.mk b19_ 0 none).add 2) fun (x22_ : List Value) =>
 cond (Nat.beq x22_.length 64) (M.store (Addr.mk b8_ 0 none) x22_
 (go15_ (()))) M.stuck)
 (go15_ (()))) fun go21_ =>
 M.load (.cell (.int .i64)) 1 ((Addr.mk b19_ 0 none).add 0) fun (x23_ : Int) =>
 M.ite (x23_ == x.2.1)
 (M.load (.cell (.int .i64)) 1 ((Addr.mk b19_ 0 none).add 1) fun (x25_ : Int) =>
 go21_ ((x25_ == x.2.2.1), ()))
 (go21_ (false, ())))) M.stuck
def f162c1 (X : Task → M Value) (L : LoopI) (x : (Option Addr) × (Int) × (Int) × Unit) (b8_ : Nat) (x10_ : (Option Addr × Nat × Nat)) (v11_ : Int) : M (Value) :=
 M.bind (L (σ := (Int) × Unit) (ρ := (Unit) ⊕ (Unit)) (fun s12_ =>
 M.ite (decide (s12_.1 < v11_))
 (M.join (fun (j14_ : Unit) =>
 M.pure (.inl ((IntKind.i64.wrap (s12_.1 + 1)), ()))) fun go15_ =>
 M.guard (decide (0 ≤ s12_.1) && decide (s12_.1 < ((x10_.2.1 : Nat) : Int)))
 (M.deref x10_.1 fun a17_ =>
 M.load .raw 66 (a17_.add ((Int.toNat s12_.1) * 66)) fun (x18_ : List Value) =>
 M.new (.cells (Row.ofList (zc 185)) 185 false (0, 0) false) fun b19_ =>
 f162c0 X L x b8_ go15_ x18_ b19_))
 (M.pure (.inr (.inl (()))))) (0, ())) <| M.sum (fun (j27_ : Unit) =>
 M.pure (.tuple ⟨[(.slice (some ((Addr.mk b8_ 0 none).add (0 * 1))) (64 - 0) (64 - 0)), (.int .i64 0)]⟩)) (fun _ => M.stuck)
def f162c2 (X : Task → M Value) (L : LoopI) (x : (Option Addr) × (Int) × (Int) × Unit) (a4_ : Addr) : M (Value) :=
 M.load (.cell .slice) 1 (a4_.add ((Int.toNat x.2.1) * 1)) fun (x5_ : (Option Addr × Nat × Nat)) =>
 M.guard (decide (0 ≤ x.2.2.1) && decide (x.2.2.1 < ((x5_.2.1 : Nat) : Int)))
 (M.deref x5_.1 fun a6_ =>
 M.load .raw 64 (a6_.add ((Int.toNat x.2.2.1) * 64)) fun (x7_ : List Value) =>
 M.new (.cells (Row.ofList (zc 183)) 183 false (0, 0) false) fun b8_ =>
 cond (Nat.beq x7_.length 64) (M.store (Addr.mk b8_ 0 none) x7_
 (M.deref x.1 fun a9_ =>
 M.load (.cell .slice) 1 (a9_.add 2) fun (x10_ : (Option Addr × Nat × Nat)) =>
 f162c1 X L x b8_ x10_ ((x10_.2.1 : Nat) : Int))) M.stuck)
def f162 (X : Task → M Value) (L : LoopI) (x : (Option Addr) × (Int) × (Int) × Unit) : M Value :=
 M.callS (.one (.cell (.int .i64))) (X (.call 161 [(.pointer x.1), (.int .i64 x.2.1), (.int .i64 x.2.2.1)])) fun (r0_ : Int) =>
 M.ite (!(r0_ == 0))
 (M.pure (.tuple ⟨[(.slice none 0 0), (.int .i64 r0_)]⟩))
 (M.deref x.1 fun a2_ =>
 M.load (.cell .slice) 1 (a2_.add 1) fun (x3_ : (Option Addr × Nat × Nat)) =>
 M.guard (decide (0 ≤ x.2.1) && decide (x.2.1 < ((x3_.2.1 : Nat) : Int)))
 (M.deref x3_.1 fun a4_ =>
 f162c2 X L x a4_))

theorem e162 (X : Task → M Value) (L : LoopI) (x : (Option Addr) × (Int) × (Int) × Unit) : evBody CC { call := X, loop := L } 162 (shsInj [(.cell .ptr), (.cell (.int .i64)), (.cell (.int .i64))] x) = f162 X L x := by kernel_rfl

/-- slices.IndexFunc[[][]byte,[]byte] -/
def f163c0 (X : Task → M Value) (L : LoopI) (x : ((Option Addr × Nat × Nat)) × (Value) × Unit) (v0_ : Int) : M (Value) :=
 M.bind (L (σ := (Int) × Unit) (ρ := (Unit) ⊕ (((Int) × Unit) ⊕ (Unit))) (fun s1_ =>
 M.ite (decide (s1_.1 < v0_))
 (M.guard (decide (0 ≤ s1_.1) && decide (s1_.1 < ((x.1.2.1 : Nat) : Int)))
 (M.deref x.1.1 fun a3_ =>
 M.load (.cell .slice) 1 (a3_.add ((Int.toNat s1_.1) * 1)) fun (x4_ : (Option Addr × Nat × Nat)) =>
 callV CC ⟨X, L⟩ x.2.1 [(.slice x4_.1 x4_.2.1 x4_.2.2)] fun w6_ => M.need (RSh.prj (.one (.cell .bool)) w6_) fun (r5_ : Bool) =>
 M.ite r5_
 (M.pure (.inr (.inr (.inl (s1_.1, ())))))
 (M.pure (.inl ((IntKind.i64.wrap (s1_.1 + 1)), ())))))
 (M.pure (.inr (.inl (()))))) (0, ())) <| M.sum (fun (j8_ : Unit) =>
 M.pure (.int .i64 (-1))) (M.sum (fun (j9_ : (Int) × Unit) =>
 M.pure (.int .i64 j9_.1)) (fun _ => M.stuck))
def f163 (X : Task → M Value) (L : LoopI) (x : ((Option Addr × Nat × Nat)) × (Value) × Unit) : M Value :=
 f163c0 X L x ((x.1.2.1 : Nat) : Int)

theorem e163 (X : Task → M Value) (L : LoopI) (x : ((Option Addr × Nat × Nat)) × (Value) × Unit) : evBody CC { call := X, loop := L } 163 (shsInj [(.cell .slice), (.cell .val)] x) = f163 X L x := by kernel_rfl

/-- hayrick/matrix.May -/
def f164c0 (X : Task → M Value) (L : LoopI) (x : ((Option Addr × Nat × Nat)) × Unit) (s3_ : (Int) × Unit) : M (((Int) × Unit) ⊕ ((Unit) ⊕ (((Bool) × Unit) ⊕ (Unit)))) :=
 M.guard (decide (0 ≤ s3_.1) && decide (s3_.1 < ((x.1.2.1 : Nat) : Int)))
 (M.deref x.1.1 fun a5_ =>
 M.load (.cell .slice) 1 (a5_.add ((Int.toNat s3_.1) * 1)) fun (x6_ : (Option Addr × Nat × Nat)) =>
 M.guard (decide (0 ≤ 0) && decide (0 < ((x.1.2.1 : Nat) : Int)))
 (M.deref x.1.1 fun a8_ =>
 M.load (.cell .slice) 1 (a8_.add ((Int.toNat 0) * 1)) fun (x9_ : (Option Addr × Nat × Nat)) =>
 M.ite (!(((x6_.2.1 : Nat) : Int) == ((x9_.2.1 : Nat) : Int)))
 (M.pure (.inr (.inr (.inl (false, ())))))
 (M.pure (.inl ((IntKind.i64.wrap (s3_.1 + 1)), ())))))
def f164c1 (X : Task → M Value) (L : LoopI) (x : ((Option Addr × Nat × Nat)) × Unit) (go1_ : ((Bool) × Unit) → M (Value)) (v18_ : Bool) : M (Value) :=
 M.ite v18_
 (go1_ (true, ()))
 (M.guard (decide (0 ≤ 0) && decide (0 < ((x.1.2.1 : Nat) : Int)))
 (M.deref x.1.1 fun a19_ =>
 M.load (.cell .slice) 1 (a19_.add ((Int.toNat 0) * 1)) fun (x20_ : (Option Addr × Nat × Nat)) =>
 M.ite (decide (((x20_.2.1 : Nat) : Int) < 1))
 (go1_ (true, ()))
 (M.guard (decide (0 ≤ 0) && decide (0 < ((x.1.2.1 : Nat) : Int)))
 (M.deref x.1.1 fun a23_ =>
 M.load (.cell .slice) 1 (a23_.add ((Int.toNat 0) * 1)) fun (x24_ : (Option Addr × Nat × Nat)) =>
 go1_ ((decide (((x24_.2.1 : Nat) : Int) > 255)), ())))))
def f164c2 (X : Task → M Value) (L : LoopI) (x : ((Option Addr × Nat × Nat)) × Unit) : M (Value) :=
 M.join (fun (j0_ : (Bool) × Unit) =>
 M.ite j0_.1
 (M.pure (.bool false))
 (M.bind (L (σ := (Int) × Unit) (ρ := (Unit) ⊕ (((Bool) × Unit) ⊕ (Unit))) (fun s3_ =>
 M.ite (decide (s3_.1 < ((x.1.2.1 : Nat) : Int)))
 (f164c0 X L x s3_)
 (M.pure (.inr (.inl (()))))) (0, ())) <| M.sum (fun (j13_ : Unit) =>
 M.pure (.bool true)) (M.sum (fun (j14_ : (Bool) × Unit) =>
 M.pure (.bool j14_.1)) (fun _ => M.stuck)))) fun go1_ =>
 M.ite (decide (((x.1.2.1 : Nat) : Int) < 1))
 (go1_ (true, ()))
 (f164c1 X L x go1_ (decide (((x.1.2.1 : Nat) : Int) > 255)))
def f164 (X : Task → M Value) (L : LoopI) (x : ((Option Addr × Nat × Nat)) × Unit) : M Value :=
 f164c2 X L x

theorem e164 (X : Task → M Value) (L : LoopI) (x : ((Option Addr × Nat × Nat)) × Unit) : evBody CC { call := X, loop := L } 164 (shsInj [(.cell .slice)] x) = f164 X L x := by kernel_rfl

/-- hayrick/matrix.Identity -/
def f166c0 (X : Task → M Value) (L : LoopI) (r2_ : (Option Addr × Nat × Nat)) (v3_ : Int) : M (Value) :=
 M.bind (L (σ := (Int) × Unit) (ρ := (Unit) ⊕ (Unit)) (fun s4_ =>
 M.ite (decide (s4_.1 < v3_))
 (M.guard (decide (0 ≤ s4_.1) && decide (s4_.1 < ((r2_.2.1 : Nat) : Int)))
 (M.deref r2_.1 fun a6_ =>
 M.load (.cell .slice) 1 (a6_.add ((Int.toNat s4_.1) * 1)) fun (x7_ : (Option Addr × Nat × Nat)) =>
 M.guard (decide (0 ≤ s4_.1) && decide (s4_.1 < ((x7_.2.1 : Nat) : Int)))
 (M.deref x7_.1 fun a8_ =>
 M.store (a8_.add ((Int.toNat s4_.1) * 1)) [(.int .u8 1)]
 (M.pure (.inl ((IntKind.i64.wrap (s4_.1 + 1)), ()))))))
 (M.pure (.inr (.inl (()))))) (0, ())) <| M.sum (fun (j10_ : Unit) =>
 M.pure (.tuple ⟨[(.slice r2_.1 r2_.2.1 r2_.2.2), (.int .i64 0)]⟩)) (fun _ => M.stuck)
def f166 (X : Task → M Value) (L : LoopI) (x : (Int) × Unit) : M Value :=
 M.join (fun (j0_ : (Bool) × Unit) =>
 M.ite j0_.1
 (M.pure (.tuple ⟨[(.slice none 0 0), (.int .i64 1)]⟩))
 (M.callS (.one (.cell .slice)) (X (.call 177 [(.int .i64 x.1), (.int .i64 x.1)])) fun (r2_ : (Option Addr × Nat × Nat)) =>
 f166c0 X L r2_ ((r2_.2.1 : Nat) : Int))) fun go1_ =>
 M.ite (decide (x.1 < 1))
 (go1_ (true, ()))
 (go1_ ((decide (x.1 > 255)), ()))

theorem e166 (X : Task → M Value) (L : LoopI) (x : (Int) × Unit) : evBody CC { call := X, loop := L } 166 (shsInj [(.cell (.int .i64))] x) = f166 X L x := by kernel_rfl

/-- hayrick/matrix.solve -/
def f167c0 (X : Task → M Value) (L : LoopI) (x : ((Option Addr × Nat × Nat)) × ((Option Addr × Nat × Nat)) × Unit) (s1_ : (Int) × Unit) (s3_ : (Int) × Unit) : M (((Int) × Unit) ⊕ (((Int) × Unit) ⊕ (Unit))) :=
 M.join (fun (j4_ : (Bool) × Unit) =>
 M.ite j4_.1
 (M.pure (.inl ((IntKind.i64.wrap (s3_.1 + 1)), ())))
 (M.pure (.inr (.inl (s3_.1, ()))))) fun go5_ =>
 M.ite (decide (s3_.1 < ((x.1.2.1 : Nat) : Int)))
 (M.guard (decide (0 ≤ s3_.1) && decide (s3_.1 < ((x.1.2.1 : Nat) : Int)))
 (M.deref x.1.1 fun a9_ =>
 M.load (.cell .slice) 1 (a9_.add ((Int.toNat s3_.1) * 1)) fun (x10_ : (Option Addr × Nat × Nat)) =>
 M.guard (decide (0 ≤ s1_.1) && decide (s1_.1 < ((x10_.2.1 : Nat) : Int)))
 (M.deref x10_.1 fun a11_ =>
 M.load (.cell (.int .u8)) 1 (a11_.add ((Int.toNat s1_.1) * 1)) fun (x12_ : Int) =>
 go5_ ((x12_ == 0), ()))))
 (go5_ (false, ()))
def f167c1 (X : Task → M Value) (L : LoopI) (s1_ : (Int) × Unit) (s37_ : (Int) × Unit) (a39_ : Addr) (x40_ : (Option Addr × Nat × Nat)) (a41_ : Addr) (x42_ : (Option Addr × Nat × Nat)) (r51_ : Int) (r56_ : Int) : M (((Int) × Unit) ⊕ ((Unit) ⊕ (Unit))) :=
 M.load (.cell .slice) 1 (a41_.add ((Int.toNat s1_.1) * 1)) fun (x57_ : (Option Addr × Nat × Nat)) => cond (veqv (.slice x57_.1 x57_.2.1 x57_.2.2) (.slice x42_.1 x42_.2.1 x42_.2.2)) (M.load (.cell .slice) 1 (a39_.add ((Int.toNat s1_.1) * 1)) fun (x58_ : (Option Addr × Nat × Nat)) => cond (veqv (.slice x58_.1 x58_.2.1 x58_.2.2) (.slice x40_.1 x40_.2.1 x40_.2.2)) (M.guard (decide (0 ≤ s37_.1) && decide (s37_.1 < ((x40_.2.1 : Nat) : Int)))
 (M.deref x40_.1 fun a59_ =>
 M.store (a59_.add ((Int.toNat s37_.1) * 1)) [(.int .u8 r51_)]
 (M.guard (decide (0 ≤ s37_.1) && decide (s37_.1 < ((x42_.2.1 : Nat) : Int)))
 (M.deref x42_.1 fun a60_ =>
 M.store (a60_.add ((Int.toNat s37_.1) * 1)) [(.int .u8 r56_)]
 (M.pure (.inl ((IntKind.i64.wrap (s37_.1 + 1)), ()))))))) M.stuck) M.stuck
def f167c2 (X : Task → M Value) (L : LoopI) (s1_ : (Int) × Unit) (r33_ : (Int) × (Int) × Unit) (s37_ : (Int) × Unit) (a39_ : Addr) (x40_ : (Option Addr × Nat × Nat)) (a41_ : Addr) (x42_ : (Option Addr × Nat × Nat)) (a47_ : Addr) (x48_ : (Option Addr × Nat × Nat)) (a49_ : Addr) (x50_ : Int) (r51_ : Int) : M (((Int) × Unit) ⊕ ((Unit) ⊕ (Unit))) :=
 M.load (.cell (.int .u8)) 1 (a49_.add ((Int.toNat s37_.1) * 1)) fun (x52_ : Int) => cond (veqv (.int .u8 x52_) (.int .u8 x50_)) (M.load (.cell .slice) 1 (a47_.add ((Int.toNat s1_.1) * 1)) fun (x53_ : (Option Addr × Nat × Nat)) => cond (veqv (.slice x53_.1 x53_.2.1 x53_.2.2) (.slice x48_.1 x48_.2.1 x48_.2.2)) (M.load (.cell .slice) 1 (a41_.add ((Int.toNat s1_.1) * 1)) fun (x54_ : (Option Addr × Nat × Nat)) => cond (veqv (.slice x54_.1 x54_.2.1 x54_.2.2) (.slice x42_.1 x42_.2.1 x42_.2.2)) (M.load (.cell .slice) 1 (a39_.add ((Int.toNat s1_.1) * 1)) fun (x55_ : (Option Addr × Nat × Nat)) => cond (veqv (.slice x55_.1 x55_.2.1 x55_.2.2) (.slice x40_.1 x40_.2.1 x40_.2.2)) (M.callS (.one (.cell (.int .u8))) (X (.call 158 [(.int .u8 x50_), (.int .u8 r33_.1)])) fun (r56_ : Int) =>
 f167c1 X L s1_ s37_ a39_ x40_ a41_ x42_ r51_ r56_) M.stuck) M.stuck) M.stuck) M.stuck
def f167c3 (X : Task → M Value) (L : LoopI) (x : ((Option Addr × Nat × Nat)) × ((Option Addr × Nat × Nat)) × Unit) (s1_ : (Int) × Unit) (r33_ : (Int) × (Int) × Unit) (s37_ : (Int) × Unit) (a39_ : Addr) (x40_ : (Option Addr × Nat × Nat)) (a41_ : Addr) (x42_ : (Option Addr × Nat × Nat)) (x46_ : Int) : M (((Int) × Unit) ⊕ ((Unit) ⊕ (Unit))) :=
 M.guard (decide (0 ≤ s1_.1) && decide (s1_.1 < ((x.2.1.2.1 : Nat) : Int)))
 (M.deref x.2.1.1 fun a47_ =>
 M.load (.cell .slice) 1 (a47_.add ((Int.toNat s1_.1) * 1)) fun (x48_ : (Option Addr × Nat × Nat)) =>
 M.guard (decide (0 ≤ s37_.1) && decide (s37_.1 < ((x48_.2.1 : Nat) : Int)))
 (M.deref x48_.1 fun a49_ =>
 M.load (.cell (.int .u8)) 1 (a49_.add ((Int.toNat s37_.1) * 1)) fun (x50_ : Int) =>
 M.callS (.one (.cell (.int .u8))) (X (.call 158 [(.int .u8 x46_), (.int .u8 r33_.1)])) fun (r51_ : Int) =>
 f167c2 X L s1_ r33_ s37_ a39_ x40_ a41_ x42_ a47_ x48_ a49_ x50_ r51_))
def f167c4 (X : Task → M Value) (L : LoopI) (x : ((Option Addr × Nat × Nat)) × ((Option Addr × Nat × Nat)) × Unit) (s1_ : (Int) × Unit) (r33_ : (Int) × (Int) × Unit) (s37_ : (Int) × Unit) (a39_ : Addr) (x40_ : (Option Addr × Nat × Nat)) (a41_ : Addr) : M (((Int) × Unit) ⊕ ((Unit) ⊕ (Unit))) :=
 M.load (.cell .slice) 1 (a41_.add ((Int.toNat s1_.1) * 1)) fun (x42_ : (Option Addr × Nat × Nat)) =>
 M.guard (decide (0 ≤ s1_.1) && decide (s1_.1 < ((x.1.2.1 : Nat) : Int)))
 (M.deref x.1.1 fun a43_ =>
 M.load (.cell .slice) 1 (a43_.add ((Int.toNat s1_.1) * 1)) fun (x44_ : (Option Addr × Nat × Nat)) =>
 M.guard (decide (0 ≤ s37_.1) && decide (s37_.1 < ((x44_.2.1 : Nat) : Int)))
 (M.deref x44_.1 fun a45_ =>
 M.load (.cell (.int .u8)) 1 (a45_.add ((Int.toNat s37_.1) * 1)) fun (x46_ : Int) =>
 f167c3 X L x s1_ r33_ s37_ a39_ x40_ a41_ x42_ x46_))
def f167c5 (X : Task → M Value) (L : LoopI) (x : ((Option Addr × Nat × Nat)) × ((Option Addr × Nat × Nat)) × Unit) (s1_ : (Int) × Unit) (s64_ : (Int) × Unit) (go67_ : (Unit) → M (((Int) × Unit) ⊕ ((Unit) ⊕ (Unit)))) (x73_ : Int) : M (((Int) × Unit) ⊕ ((Unit) ⊕ (Unit))) :=
 M.guard (decide (0 ≤ s64_.1) && decide (s64_.1 < ((x.2.1.2.1 : Nat) : Int)))
 (M.deref x.2.1.1 fun a79_ =>
 M.load (.cell .slice) 1 (a79_.add ((Int.toNat s64_.1) * 1)) fun (x80_ : (Option Addr × Nat × Nat)) =>
 M.guard (decide (0 ≤ s1_.1) && decide (s1_.1 < ((x.2.1.2.1 : Nat) : Int)))
 (M.deref x.2.1.1 fun a81_ =>
 M.load (.cell .slice) 1 (a81_.add ((Int.toNat s1_.1) * 1)) fun (x82_ : (Option Addr × Nat × Nat)) =>
 M.callS (.tuple []) (X (.call 178 [(.slice x80_.1 x80_.2.1 x80_.2.2), (.slice x82_.1 x82_.2.1 x82_.2.2), (.int .u8 x73_)])) fun (r83_ : Unit) =>
 go67_ (())))
def f167c6 (X : Task → M Value) (L : LoopI) (x : ((Option Addr × Nat × Nat)) × ((Option Addr × Nat × Nat)) × Unit) (s1_ : (Int) × Unit) (s64_ : (Int) × Unit) (go67_ : (Unit) → M (((Int) × Unit) ⊕ ((Unit) ⊕ (Unit)))) (x73_ : Int) : M (((Int) × Unit) ⊕ ((Unit) ⊕ (Unit))) :=
 M.guard (decide (0 ≤ s64_.1) && decide (s64_.1 < ((x.1.2.1 : Nat) : Int)))
 (M.deref x.1.1 fun a74_ =>
 M.load (.cell .slice) 1 (a74_.add ((Int.toNat s64_.1) * 1)) fun (x75_ : (Option Addr × Nat × Nat)) =>
 M.guard (decide (0 ≤ s1_.1) && decide (s1_.1 < ((x.1.2.1 : Nat) : Int)))
 (M.deref x.1.1 fun a76_ =>
 M.load (.cell .slice) 1 (a76_.add ((Int.toNat s1_.1) * 1)) fun (x77_ : (Option Addr × Nat × Nat)) =>
 M.callS (.tuple []) (X (.call 178 [(.slice x75_.1 x75_.2.1 x75_.2.2), (.slice x77_.1 x77_.2.1 x77_.2.2), (.int .u8 x73_)])) fun (r78_ : Unit) =>
 f167c5 X L x s1_ s64_ go67_ x73_))
def f167c7 (X : Task → M Value) (L : LoopI) (x : ((Option Addr × Nat × Nat)) × ((Option Addr × Nat × Nat)) × Unit) (s1_ : (Int) × Unit) (s64_ : (Int) × Unit) : M (((Int) × Unit) ⊕ ((Unit) ⊕ (Unit))) :=
 M.join (fun (j66_ : Unit) =>
 M.pure (.inl ((IntKind.i64.wrap (s64_.1 + 1)), ()))) fun go67_ =>
 M.ite (!(s64_.1 == s1_.1))
 (M.guard (decide (0 ≤ s64_.1) && decide (s64_.1 < ((x.1.2.1 : Nat) : Int)))
 (M.deref x.1.1 fun a70_ =>
 M.load (.cell .slice) 1 (a70_.add ((Int.toNat s64_.1) * 1)) fun (x71_ : (Option Addr × Nat × Nat)) =>
 M.guard (decide (0 ≤ s1_.1) && decide (s1_.1 < ((x71_.2.1 : Nat) : Int)))
 (M.deref x71_.1 fun a72_ =>
 M.load (.cell (.int .u8)) 1 (a72_.add ((Int.toNat s1_.1) * 1)) fun (x73_ : Int) =>
 f167c6 X L x s1_ s64_ go67_ x73_)))
 (go67_ (()))
def f167c8 (X : Task → M Value) (L : LoopI) (x : ((Option Addr × Nat × Nat)) × ((Option Addr × Nat × Nat)) × Unit) (s1_ : (Int) × Unit) (r33_ : (Int) × (Int) × Unit) (v36_ : Int) : M (((Int) × Unit) ⊕ ((Unit) ⊕ (Unit))) :=
 M.bind (L (σ := (Int) × Unit) (ρ := (Unit) ⊕ (Unit)) (fun s37_ =>
 M.ite (decide (s37_.1 < v36_))
 (M.guard (decide (0 ≤ s1_.1) && decide (s1_.1 < ((x.1.2.1 : Nat) : Int)))
 (M.deref x.1.1 fun a39_ =>
 M.load (.cell .slice) 1 (a39_.add ((Int.toNat s1_.1) * 1)) fun (x40_ : (Option Addr × Nat × Nat)) =>
 M.guard (decide (0 ≤ s1_.1) && decide (s1_.1 < ((x.2.1.2.1 : Nat) : Int)))
 (M.deref x.2.1.1 fun a41_ =>
 f167c4 X L x s1_ r33_ s37_ a39_ x40_ a41_)))
 (M.pure (.inr (.inl (()))))) (0, ())) <| M.sum (fun (j62_ : Unit) =>
 M.bind (L (σ := (Int) × Unit) (ρ := (Unit) ⊕ (Unit)) (fun s64_ =>
 M.ite (decide (s64_.1 < ((x.1.2.1 : Nat) : Int)))
 (f167c7 X L x s1_ s64_)
 (M.pure (.inr (.inl (()))))) (0, ())) <| M.sum (fun (j84_ : Unit) =>
 M.pure (.inl ((IntKind.i64.wrap (s1_.1 + 1)), ()))) (fun _ => M.stuck)) (fun _ => M.stuck)
def f167c9 (X : Task → M Value) (L : LoopI) (x : ((Option Addr × Nat × Nat)) × ((Option Addr × Nat × Nat)) × Unit) (s1_ : (Int) × Unit) (x30_ : (Option Addr × Nat × Nat)) : M (((Int) × Unit) ⊕ ((Unit) ⊕ (Unit))) :=
 M.guard (decide (0 ≤ s1_.1) && decide (s1_.1 < ((x30_.2.1 : Nat) : Int)))
 (M.deref x30_.1 fun a31_ =>
 M.load (.cell (.int .u8)) 1 (a31_.add ((Int.toNat s1_.1) * 1)) fun (x32_ : Int) =>
 M.callS (.tuple [(.cell (.int .u8)), (.cell (.int .i64))]) (X (.call 159 [(.int .u8 x32_)])) fun (r33_ : (Int) × (Int) × Unit) =>
 M.guard (decide (0 ≤ s1_.1) && decide (s1_.1 < ((x.1.2.1 : Nat) : Int)))
 (M.deref x.1.1 fun a34_ =>
 M.load (.cell .slice) 1 (a34_.add ((Int.toNat s1_.1) * 1)) fun (x35_ : (Option Addr × Nat × Nat)) =>
 f167c8 X L x s1_ r33_ ((x35_.2.1 : Nat) : Int)))
def f167c10 (X : Task → M Value) (L : LoopI) (x : ((Option Addr × Nat × Nat)) × ((Option Addr × Nat × Nat)) × Unit) (s1_ : (Int) × Unit) (j14_ : (Int) × Unit) (x24_ : (Option Addr × Nat × Nat)) (x26_ : (Option Addr × Nat × Nat)) : M (((Int) × Unit) ⊕ ((Unit) ⊕ (Unit))) :=
 M.guard (decide (0 ≤ s1_.1) && decide (s1_.1 < ((x.2.1.2.1 : Nat) : Int)))
 (M.deref x.2.1.1 fun a27_ =>
 M.store (a27_.add ((Int.toNat s1_.1) * 1)) [(.slice x24_.1 x24_.2.1 x24_.2.2)]
 (M.guard (decide (0 ≤ j14_.1) && decide (j14_.1 < ((x.2.1.2.1 : Nat) : Int)))
 (M.deref x.2.1.1 fun a28_ =>
 M.store (a28_.add ((Int.toNat j14_.1) * 1)) [(.slice x26_.1 x26_.2.1 x26_.2.2)]
 (M.guard (decide (0 ≤ s1_.1) && decide (s1_.1 < ((x.1.2.1 : Nat) : Int)))
 (M.deref x.1.1 fun a29_ =>
 M.load (.cell .slice) 1 (a29_.add ((Int.toNat s1_.1) * 1)) fun (x30_ : (Option Addr × Nat × Nat)) =>
 f167c9 X L x s1_ x30_)))))
def f167c11 (X : Task → M Value) (L : LoopI) (x : ((Option Addr × Nat × Nat)) × ((Option Addr × Nat × Nat)) × Unit) (s1_ : (Int) × Unit) (j14_ : (Int) × Unit) (x20_ : (Option Addr × Nat × Nat)) (a22_ : Addr) : M (((Int) × Unit) ⊕ ((Unit) ⊕ (Unit))) :=
 M.store (a22_.add ((Int.toNat j14_.1) * 1)) [(.slice x20_.1 x20_.2.1 x20_.2.2)]
 (M.guard (decide (0 ≤ j14_.1) && decide (j14_.1 < ((x.2.1.2.1 : Nat) : Int)))
 (M.deref x.2.1.1 fun a23_ =>
 M.load (.cell .slice) 1 (a23_.add ((Int.toNat j14_.1) * 1)) fun (x24_ : (Option Addr × Nat × Nat)) =>
 M.guard (decide (0 ≤ s1_.1) && decide (s1_.1 < ((x.2.1.2.1 : Nat) : Int)))
 (M.deref x.2.1.1 fun a25_ =>
 M.load (.cell .slice) 1 (a25_.add ((Int.toNat s1_.1) * 1)) fun (x26_ : (Option Addr × Nat × Nat)) =>
 f167c10 X L x s1_ j14_ x24_ x26_)))
def f167c12 (X : Task → M Value) (L : LoopI) (x : ((Option Addr × Nat × Nat)) × ((Option Addr × Nat × Nat)) × Unit) (s1_ : (Int) × Unit) (j14_ : (Int) × Unit) (x18_ : (Option Addr × Nat × Nat)) : M (((Int) × Unit) ⊕ ((Unit) ⊕ (Unit))) :=
 M.guard (decide (0 ≤ s1_.1) && decide (s1_.1 < ((x.1.2.1 : Nat) : Int)))
 (M.deref x.1.1 fun a19_ =>
 M.load (.cell .slice) 1 (a19_.add ((Int.toNat s1_.1) * 1)) fun (x20_ : (Option Addr × Nat × Nat)) =>
 M.guard (decide (0 ≤ s1_.1) && decide (s1_.1 < ((x.1.2.1 : Nat) : Int)))
 (M.deref x.1.1 fun a21_ =>
 M.store (a21_.add ((Int.toNat s1_.1) * 1)) [(.slice x18_.1 x18_.2.1 x18_.2.2)]
 (M.guard (decide (0 ≤ j14_.1) && decide (j14_.1 < ((x.1.2.1 : Nat) : Int)))
 (M.deref x.1.1 fun a22_ =>
 f167c11 X L x s1_ j14_ x20_ a22_))))
def f167c13 (X : Task → M Value) (L : LoopI) (x : ((Option Addr × Nat × Nat)) × ((Option Addr × Nat × Nat)) × Unit) (s1_ : (Int) × Unit) : M (((Int) × Unit) ⊕ ((Unit) ⊕ (Unit))) :=
 M.bind (L (σ := (Int) × Unit) (ρ := ((Int) × Unit) ⊕ (Unit)) (fun s3_ =>
 f167c0 X L x s1_ s3_) (s1_.1, ())) <| M.sum (fun (j14_ : (Int) × Unit) =>
 M.join (fun (j15_ : Unit) =>
 M.guard (decide (0 ≤ j14_.1) && decide (j14_.1 < ((x.1.2.1 : Nat) : Int)))
 (M.deref x.1.1 fun a17_ =>
 M.load (.cell .slice) 1 (a17_.add ((Int.toNat j14_.1) * 1)) fun (x18_ : (Option Addr × Nat × Nat)) =>
 f167c12 X L x s1_ j14_ x18_)) fun go16_ =>
 M.ite (j14_.1 == ((x.1.2.1 : Nat) : Int))
 (M.throw (.iface 263 (.agg ⟨[(.int .i64 s1_.1)]⟩)))
 (go16_ (()))) (fun _ => M.stuck)
def f167 (X : Task → M Value) (L : LoopI) (x : ((Option Addr × Nat × Nat)) × ((Option Addr × Nat × Nat)) × Unit) : M Value :=
 M.bind (L (σ := (Int) × Unit) (ρ := (Unit) ⊕ (Unit)) (fun s1_ =>
 M.ite (decide (s1_.1 < ((x.1.2.1 : Nat) : Int)))
 (f167c13 X L x s1_)
 (M.pure (.inr (.inl (()))))) (0, ())) <| M.sum (fun (j88_ : Unit) =>
 M.pure (.tuple ⟨[]⟩)) (fun _ => M.stuck)

theorem e167 (X : Task → M Value) (L : LoopI) (x : ((Option Addr × Nat × Nat)) × ((Option Addr × Nat × Nat)) × Unit) : evBody CC { call := X, loop := L } 167 (shsInj [(.cell .slice), (.cell .slice)] x) = f167 X L x := by kernel_rfl

/-- slices.siftDownOrdered[int] -/
def f168c0 (X : Task → M Value) (L : LoopI) (x : ((Option Addr × Nat × Nat)) × (Int) × (Int) × (Int) × Unit) (j4_ : (Int) × Unit) (v14_ : Int) (v15_ : Int) (x18_ : Int) (v19_ : Int) : M (((Int) × Unit) ⊕ ((Unit) ⊕ ((Unit) ⊕ (Unit)))) :=
 M.guard (decide (0 ≤ v19_) && decide (v19_ < ((x.1.2.1 : Nat) : Int)))
 (M.deref x.1.1 fun a20_ =>
 M.load (.cell (.int .i64)) 1 (a20_.add ((Int.toNat v19_) * 1)) fun (x21_ : Int) =>
 M.guard (decide (0 ≤ v14_) && decide (v14_ < ((x.1.2.1 : Nat) : Int)))
 (M.deref x.1.1 fun a22_ =>
 M.store (a22_.add ((Int.toNat v14_) * 1)) [(.int .i64 x18_)]
 (M.guard (decide (0 ≤ v15_) && decide (v15_ < ((x.1.2.1 : Nat) : Int)))
 (M.deref x.1.1 fun a23_ =>
 M.store (a23_.add ((Int.toNat v15_) * 1)) [(.int .i64 x21_)]
 (M.pure (.inl (j4_.1, ())))))))
def f168c1 (X : Task → M Value) (L : LoopI) (x : ((Option Addr × Nat × Nat)) × (Int) × (Int) × (Int) × Unit) (s0_ : (Int) × Unit) (j4_ : (Int) × Unit) (x8_ : Int) (x11_ : Int) : M (((Int) × Unit) ⊕ ((Unit) ⊕ ((Unit) ⊕ (Unit)))) :=
 M.callS (.one (.cell .bool)) (X (.call 152 [(.int .i64 x8_), (.int .i64 x11_)])) fun (r12_ : Bool) =>
 M.ite (!r12_)
 (M.pure (.inr (.inr (.inl (())))))
 (let v16_ : Int := IntKind.i64.wrap (x.2.2.2.1 + j4_.1)
 M.guard (decide (0 ≤ v16_) && decide (v16_ < ((x.1.2.1 : Nat) : Int)))
 (M.deref x.1.1 fun a17_ =>
 M.load (.cell (.int .i64)) 1 (a17_.add ((Int.toNat v16_) * 1)) fun (x18_ : Int) =>
 f168c0 X L x j4_ (IntKind.i64.wrap (x.2.2.2.1 + s0_.1)) (IntKind.i64.wrap (x.2.2.2.1 + j4_.1)) x18_ (IntKind.i64.wrap (x.2.2.2.1 + s0_.1))))
def f168c2 (X : Task → M Value) (L : LoopI) (x : ((Option Addr × Nat × Nat)) × (Int) × (Int) × (Int) × Unit) (v2_ : Int) (go25_ : ((Bool) × Unit) → M (((Int) × Unit) ⊕ ((Unit) ⊕ ((Unit) ⊕ (Unit))))) (v29_ : Int) : M (((Int) × Unit) ⊕ ((Unit) ⊕ ((Unit) ⊕ (Unit)))) :=
 M.guard (decide (0 ≤ v29_) && decide (v29_ < ((x.1.2.1 : Nat) : Int)))
 (M.deref x.1.1 fun a30_ =>
 M.load (.cell (.int .i64)) 1 (a30_.add ((Int.toNat v29_) * 1)) fun (x31_ : Int) =>
 let v33_ : Int := IntKind.i64.wrap ((IntKind.i64.wrap (x.2.2.2.1 + v2_)) + 1)
 M.guard (decide (0 ≤ v33_) && decide (v33_ < ((x.1.2.1 : Nat) : Int)))
 (M.deref x.1.1 fun a34_ =>
 M.load (.cell (.int .i64)) 1 (a34_.add ((Int.toNat v33_) * 1)) fun (x35_ : Int) =>
 M.callS (.one (.cell .bool)) (X (.call 152 [(.int .i64 x31_), (.int .i64 x35_)])) fun (r36_ : Bool) =>
 go25_ (r36_, ())))
def f168c3 (X : Task → M Value) (L : LoopI) (x : ((Option Addr × Nat × Nat)) × (Int) × (Int) × (Int) × Unit) (s0_ : (Int) × Unit) (v2_ : Int) : M (((Int) × Unit) ⊕ ((Unit) ⊕ ((Unit) ⊕ (Unit)))) :=
 M.join (fun (j4_ : (Int) × Unit) =>
 let v6_ : Int := IntKind.i64.wrap (x.2.2.2.1 + s0_.1)
 M.guard (decide (0 ≤ v6_) && decide (v6_ < ((x.1.2.1 : Nat) : Int)))
 (M.deref x.1.1 fun a7_ =>
 M.load (.cell (.int .i64)) 1 (a7_.add ((Int.toNat v6_) * 1)) fun (x8_ : Int) =>
 let v9_ : Int := IntKind.i64.wrap (x.2.2.2.1 + j4_.1)
 M.guard (decide (0 ≤ v9_) && decide (v9_ < ((x.1.2.1 : Nat) : Int)))
 (M.deref x.1.1 fun a10_ =>
 M.load (.cell (.int .i64)) 1 (a10_.add ((Int.toNat v9_) * 1)) fun (x11_ : Int) =>
 f168c1 X L x s0_ j4_ x8_ x11_))) fun go5_ =>
 M.join (fun (j24_ : (Bool) × Unit) =>
 M.ite j24_.1
 (go5_ ((IntKind.i64.wrap (v2_ + 1)), ()))
 (go5_ (v2_, ()))) fun go25_ =>
 M.ite (decide ((IntKind.i64.wrap (v2_ + 1)) < x.2.2.1))
 (f168c2 X L x v2_ go25_ (IntKind.i64.wrap (x.2.2.2.1 + v2_)))
 (go25_ (false, ()))
def f168 (X : Task → M Value) (L : LoopI) (x : ((Option Addr × Nat × Nat)) × (Int) × (Int) × (Int) × Unit) : M Value :=
 M.bind (L (σ := (Int) × Unit) (ρ := (Unit) ⊕ ((Unit) ⊕ (Unit))) (fun s0_ =>
 let v2_ : Int := IntKind.i64.wrap ((IntKind.i64.wrap (2 * s0_.1)) + 1)
 M.ite (decide (v2_ ≥ x.2.2.1))
 (M.pure (.inr (.inl (()))))
 (f168c3 X L x s0_ v2_)) (x.2.1, ())) <| M.sum (fun (j37_ : Unit) =>
 M.pure (.tuple ⟨[]⟩)) (M.sum (fun (j38_ : Unit) =>
 M.pure (.tuple ⟨[]⟩)) (fun _ => M.stuck))

theorem e168 (X : Task → M Value) (L : LoopI) (x : ((Option Addr × Nat × Nat)) × (Int) × (Int) × (Int) × Unit) : evBody CC { call := X, loop := L } 168 (shsInj [(.cell .slice), (.cell (.int .i64)), (.cell (.int .i64)), (.cell (.int .i64))] x) = f168 X L x := by kernel_rfl

/-- slices.nextPowerOfTwo -/
def f169 (X : Task → M Value) (L : LoopI) (x : (Int) × Unit) : M Value :=
 M.callS (.one (.cell (.int .i64))) (X (.call 133 [(.int .u64 (IntKind.u64.wrap x.1))])) fun (r1_ : Int) =>
 M.guard (decide (0 ≤ r1_))
 (M.pure (.int .u64 (IntKind.u64.wrap (1 * 2 ^ (min (Int.toNat r1_) IntKind.u64.bits)))))

theorem e169 (X : Task → M Value) (L : LoopI) (x : (Int) × Unit) : evBody CC { call := X, loop := L } 169 (shsInj [(.cell (.int .i64))] x) = f169 X L x := by kernel_rfl

/-- (*slices.xorshift).Next -/
def f170c0 (X : Task → M Value) (L : LoopI) (x : (Option Addr) × Unit) (x8_ : Int) (v11_ : Int) : M (Value) :=
 M.deref x.1 fun a13_ =>
 M.store a13_ [(.int .u64 (bitsV .xor .u64 x8_ v11_))]
 (M.deref x.1 fun a14_ =>
 M.load (.cell (.int .u64)) 1 a14_ fun (x15_ : Int) =>
 M.deref x.1 fun a16_ =>
 M.load (.cell (.int .u64)) 1 a16_ fun (x17_ : Int) =>
 M.guard (decide (0 ≤ 17))
 (M.deref x.1 fun a20_ =>
 M.store a20_ [(.int .u64 (bitsV .xor .u64 x15_ (IntKind.u64.wrap (x17_ * 2 ^ (min (Int.toNat 17) IntKind.u64.bits)))))]
 (M.deref x.1 fun a21_ =>
 M.load (.cell (.int .u64)) 1 a21_ fun (x22_ : Int) =>
 M.pure (.int .u64 x22_))))
def f170c1 (X : Task → M Value) (L : LoopI) (x : (Option Addr) × Unit) (x1_ : Int) : M (Value) :=
 M.deref x.1 fun a2_ =>
 M.load (.cell (.int .u64)) 1 a2_ fun (x3_ : Int) =>
 M.guard (decide (0 ≤ 13))
 (M.deref x.1 fun a6_ =>
 M.store a6_ [(.int .u64 (bitsV .xor .u64 x1_ (IntKind.u64.wrap (x3_ * 2 ^ (min (Int.toNat 13) IntKind.u64.bits)))))]
 (M.deref x.1 fun a7_ =>
 M.load (.cell (.int .u64)) 1 a7_ fun (x8_ : Int) =>
 M.deref x.1 fun a9_ =>
 M.load (.cell (.int .u64)) 1 a9_ fun (x10_ : Int) =>
 M.guard (decide (0 ≤ 7))
 (f170c0 X L x x8_ (((x10_ : Int)).fdiv (2 ^ (min (Int.toNat 7) IntKind.u64.bits))))))
def f170 (X : Task → M Value) (L : LoopI) (x : (Option Addr) × Unit) : M Value :=
 M.deref x.1 fun a0_ =>
 M.load (.cell (.int .u64)) 1 a0_ fun (x1_ : Int) =>
 f170c1 X L x x1_

theorem e170 (X : Task → M Value) (L : LoopI) (x : (Option Addr) × Unit) : evBody CC { call := X, loop := L } 170 (shsInj [(.cell .ptr)] x) = f170 X L x := by kernel_rfl

/-- slices.medianAdjacentOrdered[int] -/
def f171 (X : Task → M Value) (L : LoopI) (x : ((Option Addr × Nat × Nat)) × (Int) × (Option Addr) × Unit) : M Value :=
 M.callS (.one (.cell (.int .i64))) (X (.call 172 [(.slice x.1.1 x.1.2.1 x.1.2.2), (.int .i64 (IntKind.i64.wrap (x.2.1 - 1))), (.int .i64 x.2.1), (.int .i64 (IntKind.i64.wrap (x.2.1 + 1))), (.pointer x.2.2.1)])) fun (r2_ : Int) =>
 M.pure (.int .i64 r2_)

theorem e171 (X : Task → M Value) (L : LoopI) (x : ((Option Addr × Nat × Nat)) × (Int) × (Option Addr) × Unit) : evBody CC { call := X, loop := L } 171 (shsInj [(.cell .slice), (.cell (.int .i64)), (.cell .ptr)] x) = f171 X L x := by kernel_rfl

/-- slices.medianOrdered[int] -/
def f172c0 (X : Task → M Value) (L : LoopI) (x : ((Option Addr × Nat × Nat)) × (Int) × (Int) × (Int) × (Option Addr) × Unit) : M (Value) :=
 M.callS (.tuple [(.cell (.int .i64)), (.cell (.int .i64))]) (X (.call 179 [(.slice x.1.1 x.1.2.1 x.1.2.2), (.int .i64 x.2.1), (.int .i64 x.2.2.1), (.pointer x.2.2.2.2.1)])) fun (r0_ : (Int) × (Int) × Unit) =>
 M.callS (.tuple [(.cell (.int .i64)), (.cell (.int .i64))]) (X (.call 179 [(.slice x.1.1 x.1.2.1 x.1.2.2), (.int .i64 r0_.2.1), (.int .i64 x.2.2.2.1), (.pointer x.2.2.2.2.1)])) fun (r1_ : (Int) × (Int) × Unit) =>
 M.callS (.tuple [(.cell (.int .i64)), (.cell (.int .i64))]) (X (.call 179 [(.slice x.1.1 x.1.2.1 x.1.2.2), (.int .i64 r0_.1), (.int .i64 r1_.1), (.pointer x.2.2.2.2.1)])) fun (r2_ : (Int) × (Int) × Unit) =>
 M.pure (.int .i64 r2_.2.1)
def f172 (X : Task → M Value) (L : LoopI) (x : ((Option Addr × Nat × Nat)) × (Int) × (Int) × (Int) × (Option Addr) × Unit) : M Value :=
 f172c0 X L x

theorem e172 (X : Task → M Value) (L : LoopI) (x : ((Option Addr × Nat × Nat)) × (Int) × (Int) × (Int) × (Option Addr) × Unit) : evBody CC { call := X, loop := L } 172 (shsInj [(.cell .slice), (.cell (.int .i64)), (.cell (.int .i64)), (.cell (.int .i64)), (.cell .ptr)] x) = f172 X L x := by kernel_rfl

/-- cmp.isNaN[int] -/
def f173 (X : Task → M Value) (L : LoopI) (x : (Int) × Unit) : M Value :=
 M.pure (.bool (!(x.1 == x.1)))

theorem e173 (X : Task → M Value) (L : LoopI) (x : (Int) × Unit) : evBody CC { call := X, loop := L } 173 (shsInj [(.cell (.int .i64))] x) = f173 X L x := by kernel_rfl

/-- hayrick/field.twice -/
def f174 (X : Task → M Value) (L : LoopI) (x : (Int) × Unit) : M Value :=
 M.guard (decide (0 ≤ 1))
 (let v0_ : Int := IntKind.u8.wrap (x.1 * 2 ^ (min (Int.toNat 1) IntKind.u8.bits))
 M.join (fun (j1_ : (Int) × Unit) =>
 M.pure (.int .u8 j1_.1)) fun go2_ =>
 M.ite (decide (x.1 ≥ 128))
 (go2_ ((bitsV .xor .u8 v0_ 29), ()))
 (go2_ (v0_, ())))

theorem e174 (X : Task → M Value) (L : LoopI) (x : (Int) × Unit) : evBody CC { call := X, loop := L } 174 (shsInj [(.cell (.int .u8))] x) = f174 X L x := by kernel_rfl

/-- hayrick/field.Log -/
def f175c0 (X : Task → M Value) (L : LoopI) (x : (Int) × Unit) (r1_ : (List Value) × (List Value) × Unit) : M (Value) :=
 M.new (.cells (Row.ofList (zc 281)) 281 false (0, 0) false) fun b2_ =>
 M.new (.cells (Row.ofList (zc 282)) 282 false (0, 0) false) fun b3_ =>
 cond (Nat.beq r1_.1.length 255) (M.store (Addr.mk b2_ 0 none) r1_.1
 (cond (Nat.beq r1_.2.1.length 256) (M.store (Addr.mk b3_ 0 none) r1_.2.1
 (M.guard (decide (0 ≤ x.1) && decide (x.1 < ((256 : Nat) : Int)))
 (M.load (.cell (.int .i64)) 1 ((Addr.mk b3_ 0 none).add ((Int.toNat x.1) * 1)) fun (x4_ : Int) =>
 M.pure (.tuple ⟨[(.int .i64 x4_), (.int .i64 0)]⟩)))) M.stuck)) M.stuck
def f175 (X : Task → M Value) (L : LoopI) (x : (Int) × Unit) : M Value :=
 M.ite (x.1 == 0)
 (M.pure (.tuple ⟨[(.int .i64 0), (.int .i64 1)]⟩))
 (M.callS (.tuple [.raw, .raw]) (X (.call 180 [])) fun (r1_ : (List Value) × (List Value) × Unit) =>
 f175c0 X L x r1_)

theorem e175 (X : Task → M Value) (L : LoopI) (x : (Int) × Unit) : evBody CC { call := X, loop := L } 175 (shsInj [(.cell (.int .u8))] x) = f175 X L x := by kernel_rfl

/-- hayrick/field.Exp -/
def f176c0 (X : Task → M Value) (L : LoopI) (x : (Int) × Unit) (r0_ : (List Value) × (List Value) × Unit) (b1_ : Nat) : M (Value) :=
 M.new (.cells (Row.ofList (zc 282)) 282 false (0, 0) false) fun b2_ =>
 cond (Nat.beq r0_.1.length 255) (M.store (Addr.mk b1_ 0 none) r0_.1
 (cond (Nat.beq r0_.2.1.length 256) (M.store (Addr.mk b2_ 0 none) r0_.2.1
 (M.callS (.one (.cell (.int .i64))) (X (.call 181 [(.int .i64 x.1)])) fun (r3_ : Int) =>
 M.guard (decide (0 ≤ r3_) && decide (r3_ < ((255 : Nat) : Int)))
 (M.load (.cell (.int .u8)) 1 ((Addr.mk b1_ 0 none).add ((Int.toNat r3_) * 1)) fun (x4_ : Int) =>
 M.pure (.int .u8 x4_)))) M.stuck)) M.stuck
def f176 (X : Task → M Value) (L : LoopI) (x : (Int) × Unit) : M Value :=
 M.callS (.tuple [.raw, .raw]) (X (.call 180 [])) fun (r0_ : (List Value) × (List Value) × Unit) =>
 M.new (.cells (Row.ofList (zc 281)) 281 false (0, 0) false) fun b1_ =>
 f176c0 X L x r0_ b1_

theorem e176 (X : Task → M Value) (L : LoopI) (x : (Int) × Unit) : evBody CC { call := X, loop := L } 176 (shsInj [(.cell (.int .i64))] x) = f176 X L x := by kernel_rfl

/-- hayrick/matrix.noughts -/
def f177c0 (X : Task → M Value) (L : LoopI) (x : (Int) × (Int) × Unit) (b0_ : Nat) (v1_ : Int) (s2_ : (Int) × Unit) : M (((Int) × Unit) ⊕ ((Unit) ⊕ (Unit))) :=
 M.ite (decide (s2_.1 < v1_))
 (M.guard (decide (0 ≤ x.2.1) && decide (x.2.1 ≤ x.2.1) && decide ((1 : Int) * x.2.1 ≤ 2 ^ 48))
 (M.new (.cells (Row.rep [(.int .u8 0)] (Int.toNat x.2.1)) 5 false (0, 0) false) fun b4_ =>
 M.guard (decide (0 ≤ s2_.1) && decide (s2_.1 < (((Int.toNat x.1) : Nat) : Int)))
 (M.store ((Addr.mk b0_ 0 none).add ((Int.toNat s2_.1) * 1)) [(.slice (some (Addr.mk b4_ 0 none)) (Int.toNat x.2.1) (Int.toNat x.2.1))]
 (M.pure (.inl ((IntKind.i64.wrap (s2_.1 + 1)), ()))))))
 (M.pure (.inr (.inl (()))))
def f177 (X : Task → M Value) (L : LoopI) (x : (Int) × (Int) × Unit) : M Value :=
 M.guard (decide (0 ≤ x.1) && decide (x.1 ≤ x.1) && decide ((24 : Int) * x.1 ≤ 2 ^ 48))
 (M.new (.cells (Row.rep [(.slice none 0 0)] (Int.toNat x.1)) 49 false (0, 0) false) fun b0_ =>
 M.bind (L (σ := (Int) × Unit) (ρ := (Unit) ⊕ (Unit)) (fun s2_ =>
 f177c0 X L x b0_ (((Int.toNat x.1) : Nat) : Int) s2_) (0, ())) <| M.sum (fun (j6_ : Unit) =>
 M.pure (.slice (some (Addr.mk b0_ 0 none)) (Int.toNat x.1) (Int.toNat x.1))) (fun _ => M.stuck))

theorem e177 (X : Task → M Value) (L : LoopI) (x : (Int) × (Int) × Unit) : evBody CC { call := X, loop := L } 177 (shsInj [(.cell (.int .i64)), (.cell (.int .i64))] x) = f177 X L x := by kernel_rfl

/-- hayrick/matrix.add -/
def f178c0 (X : Task → M Value) (L : LoopI) (x : ((Option Addr × Nat × Nat)) × ((Option Addr × Nat × Nat)) × (Int) × Unit) (s1_ : (Int) × Unit) (x4_ : Int) (a5_ : Addr) (x6_ : Int) : M (((Int) × Unit) ⊕ ((Unit) ⊕ (Unit))) :=
 M.callS (.one (.cell (.int .u8))) (X (.call 158 [(.int .u8 x4_), (.int .u8 x.2.2.1)])) fun (r7_ : Int) =>
 M.load (.cell (.int .u8)) 1 (a5_.add ((Int.toNat s1_.1) * 1)) fun (x8_ : Int) => cond (veqv (.int .u8 x8_) (.int .u8 x6_)) (M.callS (.one (.cell (.int .u8))) (X (.call 157 [(.int .u8 x6_), (.int .u8 r7_)])) fun (r9_ : Int) =>
 M.guard (decide (0 ≤ s1_.1) && decide (s1_.1 < ((x.1.2.1 : Nat) : Int)))
 (M.deref x.1.1 fun a10_ =>
 M.store (a10_.add ((Int.toNat s1_.1) * 1)) [(.int .u8 r9_)]
 (M.pure (.inl ((IntKind.i64.wrap (s1_.1 + 1)), ()))))) M.stuck
def f178c1 (X : Task → M Value) (L : LoopI) (x : ((Option Addr × Nat × Nat)) × ((Option Addr × Nat × Nat)) × (Int) × Unit) (v0_ : Int) : M (Value) :=
 M.bind (L (σ := (Int) × Unit) (ρ := (Unit) ⊕ (Unit)) (fun s1_ =>
 M.ite (decide (s1_.1 < v0_))
 (M.guard (decide (0 ≤ s1_.1) && decide (s1_.1 < ((x.2.1.2.1 : Nat) : Int)))
 (M.deref x.2.1.1 fun a3_ =>
 M.load (.cell (.int .u8)) 1 (a3_.add ((Int.toNat s1_.1) * 1)) fun (x4_ : Int) =>
 M.guard (decide (0 ≤ s1_.1) && decide (s1_.1 < ((x.1.2.1 : Nat) : Int)))
 (M.deref x.1.1 fun a5_ =>
 M.load (.cell (.int .u8)) 1 (a5_.add ((Int.toNat s1_.1) * 1)) fun (x6_ : Int) =>
 f178c0 X L x s1_ x4_ a5_ x6_)))
 (M.pure (.inr (.inl (()))))) (0, ())) <| M.sum (fun (j12_ : Unit) =>
 M.pure (.tuple ⟨[]⟩)) (fun _ => M.stuck)
def f178 (X : Task → M Value) (L : LoopI) (x : ((Option Addr × Nat × Nat)) × ((Option Addr × Nat × Nat)) × (Int) × Unit) : M Value :=
 f178c1 X L x ((x.2.1.2.1 : Nat) : Int)

theorem e178 (X : Task → M Value) (L : LoopI) (x : ((Option Addr × Nat × Nat)) × ((Option Addr × Nat × Nat)) × (Int) × Unit) : evBody CC { call := X, loop := L } 178 (shsInj [(.cell .slice), (.cell .slice), (.cell (.int .u8))] x) = f178 X L x := by kernel_rfl

/-- slices.order2Ordered[int] -/
def f179c0 (X : Task → M Value) (L : LoopI) (x : ((Option Addr × Nat × Nat)) × (Int) × (Int) × (Option Addr) × Unit) (x1_ : Int) : M (Value) :=
 M.guard (decide (0 ≤ x.2.1) && decide (x.2.1 < ((x.1.2.1 : Nat) : Int)))
 (M.deref x.1.1 fun a2_ =>
 M.load (.cell (.int .i64)) 1 (a2_.add ((Int.toNat x.2.1) * 1)) fun (x3_ : Int) =>
 M.callS (.one (.cell .bool)) (X (.call 152 [(.int .i64 x1_), (.int .i64 x3_)])) fun (r4_ : Bool) =>
 M.ite r4_
 (M.deref x.2.2.2.1 fun a5_ =>
 M.load (.cell (.int .i64)) 1 a5_ fun (x6_ : Int) =>
 M.deref x.2.2.2.1 fun a8_ =>
 M.store a8_ [(.int .i64 (IntKind.i64.wrap (x6_ + 1)))]
 (M.pure (.tuple ⟨[(.int .i64 x.2.2.1), (.int .i64 x.2.1)]⟩)))
 (M.pure (.tuple ⟨[(.int .i64 x.2.1), (.int .i64 x.2.2.1)]⟩)))
def f179 (X : Task → M Value) (L : LoopI) (x : ((Option Addr × Nat × Nat)) × (Int) × (Int) × (Option Addr) × Unit) : M Value :=
 M.guard (decide (0 ≤ x.2.2.1) && decide (x.2.2.1 < ((x.1.2.1 : Nat) : Int)))
 (M.deref x.1.1 fun a0_ =>
 M.load (.cell (.int .i64)) 1 (a0_.add ((Int.toNat x.2.2.1) * 1)) fun (x1_ : Int) =>
 f179c0 X L x x1_)

theorem e179 (X : Task → M Value) (L : LoopI) (x : ((Option Addr × Nat × Nat)) × (Int) × (Int) × (Option Addr) × Unit) : evBody CC { call := X, loop := L } 179 (shsInj [(.cell .slice), (.cell (.int .i64)), (.cell (.int .i64)), (.cell .ptr)] x) = f179 X L x := by kernel_rfl

/-- hayrick/field.tables -/
def f180c0 (X : Task → M Value) (L : LoopI) (b0_ : Nat) (b1_ : Nat) (s2_ : (Int) × (Int) × Unit) : M (((Int) × (Int) × Unit) ⊕ ((Unit) ⊕ (Unit))) :=
 M.ite (decide (s2_.2.1 < 255))
 (M.guard (decide (0 ≤ s2_.2.1) && decide (s2_.2.1 < ((255 : Nat) : Int)))
 (M.store ((Addr.mk b0_ 0 none).add ((Int.toNat s2_.2.1) * 1)) [(.int .u8 s2_.1)]
 (M.guard (decide (0 ≤ s2_.1) && decide (s2_.1 < ((256 : Nat) : Int)))
 (M.store ((Addr.mk b1_ 0 none).add ((Int.toNat s2_.1) * 1)) [(.int .i64 s2_.2.1)]
 (M.callS (.one (.cell (.int .u8))) (X (.call 174 [(.int .u8 s2_.1)])) fun (r4_ : Int) =>
 M.pure (.inl (r4_, (IntKind.i64.wrap (s2_.2.1 + 1)), ())))))))
 (M.pure (.inr (.inl (()))))
def f180c1 (X : Task → M Value) (L : LoopI) (b0_ : Nat) (b1_ : Nat) : M (Value) :=
 M.load .raw 255 (Addr.mk b0_ 0 none) fun (x7_ : List Value) =>
 M.load .raw 256 (Addr.mk b1_ 0 none) fun (x8_ : List Value) =>
 cond (Nat.beq x7_.length 255) (M.store (Addr.mk b0_ 0 none) x7_
 (M.load .raw 256 (Addr.mk b1_ 0 none) fun (x9_ : List Value) => cond (veqv (.agg ⟨x9_⟩) (.agg ⟨x8_⟩)) (cond (Nat.beq x8_.length 256) (M.store (Addr.mk b1_ 0 none) x8_
 (M.load .raw 255 (Addr.mk b0_ 0 none) fun (x10_ : List Value) =>
 M.load .raw 256 (Addr.mk b1_ 0 none) fun (x11_ : List Value) =>
 M.pure (.tuple ⟨[(.agg ⟨x10_⟩), (.agg ⟨x11_⟩)]⟩))) M.stuck) M.stuck)) M.stuck
def f180 (X : Task → M Value) (L : LoopI) (x : Unit) : M Value :=
 M.new (.cells (Row.ofList (zc 281)) 281 false (0, 0) false) fun b0_ =>
 M.new (.cells (Row.ofList (zc 282)) 282 false (0, 0) false) fun b1_ =>
 M.bind (L (σ := (Int) × (Int) × Unit) (ρ := (Unit) ⊕ (Unit)) (fun s2_ =>
 f180c0 X L b0_ b1_ s2_) (1, 0, ())) <| M.sum (fun (j6_ : Unit) =>
 f180c1 X L b0_ b1_) (fun _ => M.stuck)

theorem e180 (X : Task → M Value) (L : LoopI) (x : Unit) : evBody CC { call := X, loop := L } 180 (shsInj [] x) = f180 X L x := by kernel_rfl

/-- hayrick/field.around -/
def f181 (X : Task → M Value) (L : LoopI) (x : (Int) × Unit) : M Value :=
 M.guard (!(decide (255 = 0)))
 (M.guard (!(decide (255 = 0)))
 (M.pure (.int .i64 (((IntKind.i64.wrap (((x.1 : Int).tmod 255) + 255)) : Int).tmod 255))))

theorem e181 (X : Task → M Value) (L : LoopI) (x : (Int) × Unit) : evBody CC { call := X, loop := L } 181 (shsInj [(.cell (.int .i64))] x) = f181 X L x := by kernel_rfl

end
end Go.Proofs.YtcfnndmehnppnaaGreat.logKnown
