/-
  What the functions that StoreKnown reaches come to, part 1: each text, and that the reading gives it.
-/
import Derived.Test.YtcfnndmehnppnaaGreatStoreKnownH
import Derived.KernelRfl
set_option linter.unusedVariables false
namespace Go.Proofs.YtcfnndmehnppnaaGreat.storeKnown
open Go Go.Eng
noncomputable section
/-- hayrick/matrix.solve -/
def f167 (X : Task → M Value) (L : LoopI) (x : ((Option Addr × Nat × Nat)) × ((Option Addr × Nat × Nat)) × Unit) : M Value :=
 M.bind (L (σ := (Int) × Unit) (ρ := (Unit) ⊕ (Unit)) (fun s1_ =>
 M.ite (decide (s1_.1 < ((x.1.2.1 : Nat) : Int)))
 (M.bind (L (σ := (Int) × Unit) (ρ := ((Int) × Unit) ⊕ (Unit)) (fun s3_ =>
 M.join (fun (j4_ : (Bool) × Unit) =>
 M.ite j4_.1
 (M.pure (.inl ((IntKind.i64.wrap (s3_.1 + 1)), ())))
 (M.pure (.inr (.inl (s3_.1, ()))))) fun go5_ =>
 M.ite (decide (s3_.1 < ((x.1.2.1 : Nat) : Int)))
 (M.guard (decide (0 ≤ s3_.1) && decide (s3_.1 < ((x.1.2.1 : Nat) : Int)))
 (M.deref x.1.1 fun a9_ =>
 M.load (.cell .slice) 1 (a9_.add ((Int.toNat s3_.1) * 1)) fun (x10_ : (Option Addr × Nat × Nat)) =>
 M.guard (decide (0 ≤ s1_.1) && decide (s1_.1 < ((x10_.2.1 : Nat) : Int)))
 (M.deref x10_.1 fun a11_ =>
 M.load (.cell (.int .u8)) 1 (a11_.add ((Int.toNat s1_.1) * 1)) fun (x12_ : Int) =>
 go5_ ((x12_ == 0), ()))))
 (go5_ (false, ()))) (s1_.1, ())) <| M.sum (fun (j14_ : (Int) × Unit) =>
 M.join (fun (j15_ : Unit) =>
 M.guard (decide (0 ≤ j14_.1) && decide (j14_.1 < ((x.1.2.1 : Nat) : Int)))
 (M.deref x.1.1 fun a17_ =>
 M.load (.cell .slice) 1 (a17_.add ((Int.toNat j14_.1) * 1)) fun (x18_ : (Option Addr × Nat × Nat)) =>
 M.guard (decide (0 ≤ s1_.1) && decide (s1_.1 < ((x.1.2.1 : Nat) : Int)))
 (M.deref x.1.1 fun a19_ =>
 M.load (.cell .slice) 1 (a19_.add ((Int.toNat s1_.1) * 1)) fun (x20_ : (Option Addr × Nat × Nat)) =>
 M.guard (decide (0 ≤ s1_.1) && decide (s1_.1 < ((x.1.2.1 : Nat) : Int)))
 (M.deref x.1.1 fun a21_ =>
 M.store (a21_.add ((Int.toNat s1_.1) * 1)) [(.slice x18_.1 x18_.2.1 x18_.2.2)]
 (M.guard (decide (0 ≤ j14_.1) && decide (j14_.1 < ((x.1.2.1 : Nat) : Int)))
 (M.deref x.1.1 fun a22_ =>
 M.store (a22_.add ((Int.toNat j14_.1) * 1)) [(.slice x20_.1 x20_.2.1 x20_.2.2)]
 (M.guard (decide (0 ≤ j14_.1) && decide (j14_.1 < ((x.2.1.2.1 : Nat) : Int)))
 (M.deref x.2.1.1 fun a23_ =>
 M.load (.cell .slice) 1 (a23_.add ((Int.toNat j14_.1) * 1)) fun (x24_ : (Option Addr × Nat × Nat)) =>
 M.guard (decide (0 ≤ s1_.1) && decide (s1_.1 < ((x.2.1.2.1 : Nat) : Int)))
 (M.deref x.2.1.1 fun a25_ =>
 M.load (.cell .slice) 1 (a25_.add ((Int.toNat s1_.1) * 1)) fun (x26_ : (Option Addr × Nat × Nat)) =>
 M.guard (decide (0 ≤ s1_.1) && decide (s1_.1 < ((x.2.1.2.1 : Nat) : Int)))
 (M.deref x.2.1.1 fun a27_ =>
 M.store (a27_.add ((Int.toNat s1_.1) * 1)) [(.slice x24_.1 x24_.2.1 x24_.2.2)]
 (M.guard (decide (0 ≤ j14_.1) && decide (j14_.1 < ((x.2.1.2.1 : Nat) : Int)))
 (M.deref x.2.1.1 fun a28_ =>
 M.store (a28_.add ((Int.toNat j14_.1) * 1)) [(.slice x26_.1 x26_.2.1 x26_.2.2)]
 (M.guard (decide (0 ≤ s1_.1) && decide (s1_.1 < ((x.1.2.1 : Nat) : Int)))
 (M.deref x.1.1 fun a29_ =>
 M.load (.cell .slice) 1 (a29_.add ((Int.toNat s1_.1) * 1)) fun (x30_ : (Option Addr × Nat × Nat)) =>
 M.guard (decide (0 ≤ s1_.1) && decide (s1_.1 < ((x30_.2.1 : Nat) : Int)))
 (M.deref x30_.1 fun a31_ =>
 M.load (.cell (.int .u8)) 1 (a31_.add ((Int.toNat s1_.1) * 1)) fun (x32_ : Int) =>
 M.callS (.tuple [(.cell (.int .u8)), (.cell (.int .i64))]) (X (.call 159 [(.int .u8 x32_)])) fun (r33_ : (Int) × (Int) × Unit) =>
 M.guard (decide (0 ≤ s1_.1) && decide (s1_.1 < ((x.1.2.1 : Nat) : Int)))
 (M.deref x.1.1 fun a34_ =>
 M.load (.cell .slice) 1 (a34_.add ((Int.toNat s1_.1) * 1)) fun (x35_ : (Option Addr × Nat × Nat)) =>
 M.bind (L (σ := (Int) × Unit) (ρ := (Unit) ⊕ (Unit)) (fun s37_ =>
 M.ite (decide (s37_.1 < ((x35_.2.1 : Nat) : Int)))
 (M.guard (decide (0 ≤ s1_.1) && decide (s1_.1 < ((x.1.2.1 : Nat) : Int)))
 (M.deref x.1.1 fun a39_ =>
 M.load (.cell .slice) 1 (a39_.add ((Int.toNat s1_.1) * 1)) fun (x40_ : (Option Addr × Nat × Nat)) =>
 M.guard (decide (0 ≤ s1_.1) && decide (s1_.1 < ((x.2.1.2.1 : Nat) : Int)))
 (M.deref x.2.1.1 fun a41_ =>
 M.load (.cell .slice) 1 (a41_.add ((Int.toNat s1_.1) * 1)) fun (x42_ : (Option Addr × Nat × Nat)) =>
 M.guard (decide (0 ≤ s1_.1) && decide (s1_.1 < ((x.1.2.1 : Nat) : Int)))
 (M.deref x.1.1 fun a43_ =>
 M.load (.cell .slice) 1 (a43_.add ((Int.toNat s1_.1) * 1)) fun (x44_ : (Option Addr × Nat × Nat)) =>
 M.guard (decide (0 ≤ s37_.1) && decide (s37_.1 < ((x44_.2.1 : Nat) : Int)))
 (M.deref x44_.1 fun a45_ =>
 M.load (.cell (.int .u8)) 1 (a45_.add ((Int.toNat s37_.1) * 1)) fun (x46_ : Int) =>
 M.guard (decide (0 ≤ s1_.1) && decide (s1_.1 < ((x.2.1.2.1 : Nat) : Int)))
 (M.deref x.2.1.1 fun a47_ =>
 M.load (.cell .slice) 1 (a47_.add ((Int.toNat s1_.1) * 1)) fun (x48_ : (Option Addr × Nat × Nat)) =>
 M.guard (decide (0 ≤ s37_.1) && decide (s37_.1 < ((x48_.2.1 : Nat) : Int)))
 (M.deref x48_.1 fun a49_ =>
 M.load (.cell (.int .u8)) 1 (a49_.add ((Int.toNat s37_.1) * 1)) fun (x50_ : Int) =>
 M.callS (.one (.cell (.int .u8))) (X (.call 158 [(.int .u8 x46_), (.int .u8 r33_.1)])) fun (r51_ : Int) =>
 M.load (.cell (.int .u8)) 1 (a49_.add ((Int.toNat s37_.1) * 1)) fun (x52_ : Int) => cond (veqv (.int .u8 x52_) (.int .u8 x50_)) (M.load (.cell .slice) 1 (a47_.add ((Int.toNat s1_.1) * 1)) fun (x53_ : (Option Addr × Nat × Nat)) => cond (veqv (.slice x53_.1 x53_.2.1 x53_.2.2) (.slice x48_.1 x48_.2.1 x48_.2.2)) (M.load (.cell .slice) 1 (a41_.add ((Int.toNat s1_.1) * 1)) fun (x54_ : (Option Addr × Nat × Nat)) => cond (veqv (.slice x54_.1 x54_.2.1 x54_.2.2) (.slice x42_.1 x42_.2.1 x42_.2.2)) (M.load (.cell .slice) 1 (a39_.add ((Int.toNat s1_.1) * 1)) fun (x55_ : (Option Addr × Nat × Nat)) => cond (veqv (.slice x55_.1 x55_.2.1 x55_.2.2) (.slice x40_.1 x40_.2.1 x40_.2.2)) (M.callS (.one (.cell (.int .u8))) (X (.call 158 [(.int .u8 x50_), (.int .u8 r33_.1)])) fun (r56_ : Int) =>
 M.load (.cell .slice) 1 (a41_.add ((Int.toNat s1_.1) * 1)) fun (x57_ : (Option Addr × Nat × Nat)) => cond (veqv (.slice x57_.1 x57_.2.1 x57_.2.2) (.slice x42_.1 x42_.2.1 x42_.2.2)) (M.load (.cell .slice) 1 (a39_.add ((Int.toNat s1_.1) * 1)) fun (x58_ : (Option Addr × Nat × Nat)) => cond (veqv (.slice x58_.1 x58_.2.1 x58_.2.2) (.slice x40_.1 x40_.2.1 x40_.2.2)) (M.guard (decide (0 ≤ s37_.1) && decide (s37_.1 < ((x40_.2.1 : Nat) : Int)))
 (M.deref x40_.1 fun a59_ =>
 M.store (a59_.add ((Int.toNat s37_.1) * 1)) [(.int .u8 r51_)]
 (M.guard (decide (0 ≤ s37_.1) && decide (s37_.1 < ((x42_.2.1 : Nat) : Int)))
 (M.deref x42_.1 fun a60_ =>
 M.store (a60_.add ((Int.toNat s37_.1) * 1)) [(.int .u8 r56_)]
 (M.pure (.inl ((IntKind.i64.wrap (s37_.1 + 1)), ()))))))) M.stuck) M.stuck) M.stuck) M.stuck) M.stuck) M.stuck)))))))
 (M.pure (.inr (.inl (()))))) (0, ())) <| M.sum (fun (j62_ : Unit) =>
 M.bind (L (σ := (Int) × Unit) (ρ := (Unit) ⊕ (Unit)) (fun s64_ =>
 M.ite (decide (s64_.1 < ((x.1.2.1 : Nat) : Int)))
 (M.join (fun (j66_ : Unit) =>
 M.pure (.inl ((IntKind.i64.wrap (s64_.1 + 1)), ()))) fun go67_ =>
 M.ite (!(s64_.1 == s1_.1))
 (M.guard (decide (0 ≤ s64_.1) && decide (s64_.1 < ((x.1.2.1 : Nat) : Int)))
 (M.deref x.1.1 fun a70_ =>
 M.load (.cell .slice) 1 (a70_.add ((Int.toNat s64_.1) * 1)) fun (x71_ : (Option Addr × Nat × Nat)) =>
 M.guard (decide (0 ≤ s1_.1) && decide (s1_.1 < ((x71_.2.1 : Nat) : Int)))
 (M.deref x71_.1 fun a72_ =>
 M.load (.cell (.int .u8)) 1 (a72_.add ((Int.toNat s1_.1) * 1)) fun (x73_ : Int) =>
 M.guard (decide (0 ≤ s64_.1) && decide (s64_.1 < ((x.1.2.1 : Nat) : Int)))
 (M.deref x.1.1 fun a74_ =>
 M.load (.cell .slice) 1 (a74_.add ((Int.toNat s64_.1) * 1)) fun (x75_ : (Option Addr × Nat × Nat)) =>
 M.guard (decide (0 ≤ s1_.1) && decide (s1_.1 < ((x.1.2.1 : Nat) : Int)))
 (M.deref x.1.1 fun a76_ =>
 M.load (.cell .slice) 1 (a76_.add ((Int.toNat s1_.1) * 1)) fun (x77_ : (Option Addr × Nat × Nat)) =>
 M.callS (.tuple []) (X (.call 178 [(.slice x75_.1 x75_.2.1 x75_.2.2), (.slice x77_.1 x77_.2.1 x77_.2.2), (.int .u8 x73_)])) fun (r78_ : Unit) =>
 M.guard (decide (0 ≤ s64_.1) && decide (s64_.1 < ((x.2.1.2.1 : Nat) : Int)))
 (M.deref x.2.1.1 fun a79_ =>
 M.load (.cell .slice) 1 (a79_.add ((Int.toNat s64_.1) * 1)) fun (x80_ : (Option Addr × Nat × Nat)) =>
 M.guard (decide (0 ≤ s1_.1) && decide (s1_.1 < ((x.2.1.2.1 : Nat) : Int)))
 (M.deref x.2.1.1 fun a81_ =>
 M.load (.cell .slice) 1 (a81_.add ((Int.toNat s1_.1) * 1)) fun (x82_ : (Option Addr × Nat × Nat)) =>
 M.callS (.tuple []) (X (.call 178 [(.slice x80_.1 x80_.2.1 x80_.2.2), (.slice x82_.1 x82_.2.1 x82_.2.2), (.int .u8 x73_)])) fun (r83_ : Unit) =>
 go67_ (()))))))))
 (go67_ (())))
 (M.pure (.inr (.inl (()))))) (0, ())) <| M.sum (fun (j84_ : Unit) =>
 M.pure (.inl ((IntKind.i64.wrap (s1_.1 + 1)), ()))) (fun _ => M.stuck)) (fun _ => M.stuck))))))))))))))))) fun go16_ =>
 M.ite (j14_.1 == ((x.1.2.1 : Nat) : Int))
 (M.throw (.iface 263 (.agg ⟨[(.int .i64 s1_.1)]⟩)))
 (go16_ (()))) (fun _ => M.stuck))
 (M.pure (.inr (.inl (()))))) (0, ())) <| M.sum (fun (j88_ : Unit) =>
 M.pure (.tuple ⟨[]⟩)) (fun _ => M.stuck)

theorem e167 (X : Task → M Value) (L : LoopI) (x : ((Option Addr × Nat × Nat)) × ((Option Addr × Nat × Nat)) × Unit) : evBody CC { call := X, loop := L } 167 (shsInj [(.cell .slice), (.cell .slice)] x) = f167 X L x := by kernel_rfl

/-- slices.siftDownOrdered[int] -/
def f168 (X : Task → M Value) (L : LoopI) (x : ((Option Addr × Nat × Nat)) × (Int) × (Int) × (Int) × Unit) : M Value :=
 M.bind (L (σ := (Int) × Unit) (ρ := (Unit) ⊕ ((Unit) ⊕ (Unit))) (fun s0_ =>
 let v2_ : Int := IntKind.i64.wrap ((IntKind.i64.wrap (2 * s0_.1)) + 1)
 M.ite (decide (v2_ ≥ x.2.2.1))
 (M.pure (.inr (.inl (()))))
 (M.join (fun (j4_ : (Int) × Unit) =>
 let v6_ : Int := IntKind.i64.wrap (x.2.2.2.1 + s0_.1)
 M.guard (decide (0 ≤ v6_) && decide (v6_ < ((x.1.2.1 : Nat) : Int)))
 (M.deref x.1.1 fun a7_ =>
 M.load (.cell (.int .i64)) 1 (a7_.add ((Int.toNat v6_) * 1)) fun (x8_ : Int) =>
 let v9_ : Int := IntKind.i64.wrap (x.2.2.2.1 + j4_.1)
 M.guard (decide (0 ≤ v9_) && decide (v9_ < ((x.1.2.1 : Nat) : Int)))
 (M.deref x.1.1 fun a10_ =>
 M.load (.cell (.int .i64)) 1 (a10_.add ((Int.toNat v9_) * 1)) fun (x11_ : Int) =>
 M.callS (.one (.cell .bool)) (X (.call 152 [(.int .i64 x8_), (.int .i64 x11_)])) fun (r12_ : Bool) =>
 M.ite (!r12_)
 (M.pure (.inr (.inr (.inl (())))))
 (let v14_ : Int := IntKind.i64.wrap (x.2.2.2.1 + s0_.1)
 let v15_ : Int := IntKind.i64.wrap (x.2.2.2.1 + j4_.1)
 let v16_ : Int := IntKind.i64.wrap (x.2.2.2.1 + j4_.1)
 M.guard (decide (0 ≤ v16_) && decide (v16_ < ((x.1.2.1 : Nat) : Int)))
 (M.deref x.1.1 fun a17_ =>
 M.load (.cell (.int .i64)) 1 (a17_.add ((Int.toNat v16_) * 1)) fun (x18_ : Int) =>
 let v19_ : Int := IntKind.i64.wrap (x.2.2.2.1 + s0_.1)
 M.guard (decide (0 ≤ v19_) && decide (v19_ < ((x.1.2.1 : Nat) : Int)))
 (M.deref x.1.1 fun a20_ =>
 M.load (.cell (.int .i64)) 1 (a20_.add ((Int.toNat v19_) * 1)) fun (x21_ : Int) =>
 M.guard (decide (0 ≤ v14_) && decide (v14_ < ((x.1.2.1 : Nat) : Int)))
 (M.deref x.1.1 fun a22_ =>
 M.store (a22_.add ((Int.toNat v14_) * 1)) [(.int .i64 x18_)]
 (M.guard (decide (0 ≤ v15_) && decide (v15_ < ((x.1.2.1 : Nat) : Int)))
 (M.deref x.1.1 fun a23_ =>
 M.store (a23_.add ((Int.toNat v15_) * 1)) [(.int .i64 x21_)]
 (M.pure (.inl (j4_.1, ())))))))))))) fun go5_ =>
 M.join (fun (j24_ : (Bool) × Unit) =>
 M.ite j24_.1
 (go5_ ((IntKind.i64.wrap (v2_ + 1)), ()))
 (go5_ (v2_, ()))) fun go25_ =>
 M.ite (decide ((IntKind.i64.wrap (v2_ + 1)) < x.2.2.1))
 (let v29_ : Int := IntKind.i64.wrap (x.2.2.2.1 + v2_)
 M.guard (decide (0 ≤ v29_) && decide (v29_ < ((x.1.2.1 : Nat) : Int)))
 (M.deref x.1.1 fun a30_ =>
 M.load (.cell (.int .i64)) 1 (a30_.add ((Int.toNat v29_) * 1)) fun (x31_ : Int) =>
 let v33_ : Int := IntKind.i64.wrap ((IntKind.i64.wrap (x.2.2.2.1 + v2_)) + 1)
 M.guard (decide (0 ≤ v33_) && decide (v33_ < ((x.1.2.1 : Nat) : Int)))
 (M.deref x.1.1 fun a34_ =>
 M.load (.cell (.int .i64)) 1 (a34_.add ((Int.toNat v33_) * 1)) fun (x35_ : Int) =>
 M.callS (.one (.cell .bool)) (X (.call 152 [(.int .i64 x31_), (.int .i64 x35_)])) fun (r36_ : Bool) =>
 go25_ (r36_, ()))))
 (go25_ (false, ())))) (x.2.1, ())) <| M.sum (fun (j37_ : Unit) =>
 M.pure (.tuple ⟨[]⟩)) (M.sum (fun (j38_ : Unit) =>
 M.pure (.tuple ⟨[]⟩)) (fun _ => M.stuck))

theorem e168 (X : Task → M Value) (L : LoopI) (x : ((Option Addr × Nat × Nat)) × (Int) × (Int) × (Int) × Unit) : evBody CC { call := X, loop := L } 168 (shsInj [(.cell .slice), (.cell (.int .i64)), (.cell (.int .i64)), (.cell (.int .i64))] x) = f168 X L x := by kernel_rfl

/-- slices.nextPowerOfTwo -/
def f169 (X : Task → M Value) (L : LoopI) (x : (Int) × Unit) : M Value :=
 M.callS (.one (.cell (.int .i64))) (X (.call 133 [(.int .u64 (IntKind.u64.wrap x.1))])) fun (r1_ : Int) =>
 M.guard (decide (0 ≤ r1_))
 (M.pure (.int .u64 (IntKind.u64.wrap (1 * 2 ^ (min (Int.toNat r1_) IntKind.u64.bits)))))

theorem e169 (X : Task → M Value) (L : LoopI) (x : (Int) × Unit) : evBody CC { call := X, loop := L } 169 (shsInj [(.cell (.int .i64))] x) = f169 X L x := by kernel_rfl

/-- (*slices.xorshift).Next -/
def f170 (X : Task → M Value) (L : LoopI) (x : (Option Addr) × Unit) : M Value :=
 M.deref x.1 fun a0_ =>
 M.load (.cell (.int .u64)) 1 a0_ fun (x1_ : Int) =>
 M.deref x.1 fun a2_ =>
 M.load (.cell (.int .u64)) 1 a2_ fun (x3_ : Int) =>
 M.guard (decide (0 ≤ 13))
 (M.deref x.1 fun a6_ =>
 M.store a6_ [(.int .u64 (bitsV .xor .u64 x1_ (IntKind.u64.wrap (x3_ * 2 ^ (min (Int.toNat 13) IntKind.u64.bits)))))]
 (M.deref x.1 fun a7_ =>
 M.load (.cell (.int .u64)) 1 a7_ fun (x8_ : Int) =>
 M.deref x.1 fun a9_ =>
 M.load (.cell (.int .u64)) 1 a9_ fun (x10_ : Int) =>
 M.guard (decide (0 ≤ 7))
 (M.deref x.1 fun a13_ =>
 M.store a13_ [(.int .u64 (bitsV .xor .u64 x8_ (((x10_ : Int)).fdiv (2 ^ (min (Int.toNat 7) IntKind.u64.bits)))))]
 (M.deref x.1 fun a14_ =>
 M.load (.cell (.int .u64)) 1 a14_ fun (x15_ : Int) =>
 M.deref x.1 fun a16_ =>
 M.load (.cell (.int .u64)) 1 a16_ fun (x17_ : Int) =>
 M.guard (decide (0 ≤ 17))
 (M.deref x.1 fun a20_ =>
 M.store a20_ [(.int .u64 (bitsV .xor .u64 x15_ (IntKind.u64.wrap (x17_ * 2 ^ (min (Int.toNat 17) IntKind.u64.bits)))))]
 (M.deref x.1 fun a21_ =>
 M.load (.cell (.int .u64)) 1 a21_ fun (x22_ : Int) =>
 M.pure (.int .u64 x22_)))))))

theorem e170 (X : Task → M Value) (L : LoopI) (x : (Option Addr) × Unit) : evBody CC { call := X, loop := L } 170 (shsInj [(.cell .ptr)] x) = f170 X L x := by kernel_rfl

/-- slices.medianAdjacentOrdered[int] -/
def f171 (X : Task → M Value) (L : LoopI) (x : ((Option Addr × Nat × Nat)) × (Int) × (Option Addr) × Unit) : M Value :=
 M.callS (.one (.cell (.int .i64))) (X (.call 172 [(.slice x.1.1 x.1.2.1 x.1.2.2), (.int .i64 (IntKind.i64.wrap (x.2.1 - 1))), (.int .i64 x.2.1), (.int .i64 (IntKind.i64.wrap (x.2.1 + 1))), (.pointer x.2.2.1)])) fun (r2_ : Int) =>
 M.pure (.int .i64 r2_)

theorem e171 (X : Task → M Value) (L : LoopI) (x : ((Option Addr × Nat × Nat)) × (Int) × (Option Addr) × Unit) : evBody CC { call := X, loop := L } 171 (shsInj [(.cell .slice), (.cell (.int .i64)), (.cell .ptr)] x) = f171 X L x := by kernel_rfl

/-- slices.medianOrdered[int] -/
def f172 (X : Task → M Value) (L : LoopI) (x : ((Option Addr × Nat × Nat)) × (Int) × (Int) × (Int) × (Option Addr) × Unit) : M Value :=
 M.callS (.tuple [(.cell (.int .i64)), (.cell (.int .i64))]) (X (.call 179 [(.slice x.1.1 x.1.2.1 x.1.2.2), (.int .i64 x.2.1), (.int .i64 x.2.2.1), (.pointer x.2.2.2.2.1)])) fun (r0_ : (Int) × (Int) × Unit) =>
 M.callS (.tuple [(.cell (.int .i64)), (.cell (.int .i64))]) (X (.call 179 [(.slice x.1.1 x.1.2.1 x.1.2.2), (.int .i64 r0_.2.1), (.int .i64 x.2.2.2.1), (.pointer x.2.2.2.2.1)])) fun (r1_ : (Int) × (Int) × Unit) =>
 M.callS (.tuple [(.cell (.int .i64)), (.cell (.int .i64))]) (X (.call 179 [(.slice x.1.1 x.1.2.1 x.1.2.2), (.int .i64 r0_.1), (.int .i64 r1_.1), (.pointer x.2.2.2.2.1)])) fun (r2_ : (Int) × (Int) × Unit) =>
 M.pure (.int .i64 r2_.2.1)

theorem e172 (X : Task → M Value) (L : LoopI) (x : ((Option Addr × Nat × Nat)) × (Int) × (Int) × (Int) × (Option Addr) × Unit) : evBody CC { call := X, loop := L } 172 (shsInj [(.cell .slice), (.cell (.int .i64)), (.cell (.int .i64)), (.cell (.int .i64)), (.cell .ptr)] x) = f172 X L x := by kernel_rfl

/-- cmp.isNaN[int] -/
def f173 (X : Task → M Value) (L : LoopI) (x : (Int) × Unit) : M Value :=
 M.pure (.bool (!(x.1 == x.1)))

theorem e173 (X : Task → M Value) (L : LoopI) (x : (Int) × Unit) : evBody CC { call := X, loop := L } 173 (shsInj [(.cell (.int .i64))] x) = f173 X L x := by kernel_rfl

/-- hayrick/field.twice -/
def f174 (X : Task → M Value) (L : LoopI) (x : (Int) × Unit) : M Value :=
 M.guard (decide (0 ≤ 1))
 (let v0_ : Int := IntKind.u8.wrap (x.1 * 2 ^ (min (Int.toNat 1) IntKind.u8.bits))
 M.join (fun (j1_ : (Int) × Unit) =>
 M.pure (.int .u8 j1_.1)) fun go2_ =>
 M.ite (decide (x.1 ≥ 128))
 (go2_ ((bitsV .xor .u8 v0_ 29), ()))
 (go2_ (v0_, ())))

theorem e174 (X : Task → M Value) (L : LoopI) (x : (Int) × Unit) : evBody CC { call := X, loop := L } 174 (shsInj [(.cell (.int .u8))] x) = f174 X L x := by kernel_rfl

/-- hayrick/field.Log -/
def f175 (X : Task → M Value) (L : LoopI) (x : (Int) × Unit) : M Value :=
 M.ite (x.1 == 0)
 (M.pure (.tuple ⟨[(.int .i64 0), (.int .i64 1)]⟩))
 (M.callS (.tuple [.raw, .raw]) (X (.call 180 [])) fun (r1_ : (List Value) × (List Value) × Unit) =>
 M.new (.cells (zc 281) 281 false (0, 0) false) fun b2_ =>
 M.new (.cells (zc 282) 282 false (0, 0) false) fun b3_ =>
 cond (Nat.beq r1_.1.length 255) (M.store (Addr.mk b2_ 0 none) r1_.1
 (cond (Nat.beq r1_.2.1.length 256) (M.store (Addr.mk b3_ 0 none) r1_.2.1
 (M.guard (decide (0 ≤ x.1) && decide (x.1 < ((256 : Nat) : Int)))
 (M.load (.cell (.int .i64)) 1 ((Addr.mk b3_ 0 none).add ((Int.toNat x.1) * 1)) fun (x4_ : Int) =>
 M.pure (.tuple ⟨[(.int .i64 x4_), (.int .i64 0)]⟩)))) M.stuck)) M.stuck)

theorem e175 (X : Task → M Value) (L : LoopI) (x : (Int) × Unit) : evBody CC { call := X, loop := L } 175 (shsInj [(.cell (.int .u8))] x) = f175 X L x := by kernel_rfl

/-- hayrick/field.Exp -/
def f176 (X : Task → M Value) (L : LoopI) (x : (Int) × Unit) : M Value :=
 M.callS (.tuple [.raw, .raw]) (X (.call 180 [])) fun (r0_ : (List Value) × (List Value) × Unit) =>
 M.new (.cells (zc 281) 281 false (0, 0) false) fun b1_ =>
 M.new (.cells (zc 282) 282 false (0, 0) false) fun b2_ =>
 cond (Nat.beq r0_.1.length 255) (M.store (Addr.mk b1_ 0 none) r0_.1
 (cond (Nat.beq r0_.2.1.length 256) (M.store (Addr.mk b2_ 0 none) r0_.2.1
 (M.callS (.one (.cell (.int .i64))) (X (.call 181 [(.int .i64 x.1)])) fun (r3_ : Int) =>
 M.guard (decide (0 ≤ r3_) && decide (r3_ < ((255 : Nat) : Int)))
 (M.load (.cell (.int .u8)) 1 ((Addr.mk b1_ 0 none).add ((Int.toNat r3_) * 1)) fun (x4_ : Int) =>
 M.pure (.int .u8 x4_)))) M.stuck)) M.stuck

theorem e176 (X : Task → M Value) (L : LoopI) (x : (Int) × Unit) : evBody CC { call := X, loop := L } 176 (shsInj [(.cell (.int .i64))] x) = f176 X L x := by kernel_rfl

/-- hayrick/matrix.noughts -/
def f177 (X : Task → M Value) (L : LoopI) (x : (Int) × (Int) × Unit) : M Value :=
 M.guard (decide (0 ≤ x.1) && decide (x.1 ≤ x.1) && decide ((24 : Int) * x.1 ≤ 2 ^ 48))
 (M.new (.cells (repeatA [(.slice none 0 0)] (Int.toNat x.1)) 49 false (0, 0) false) fun b0_ =>
 M.bind (L (σ := (Int) × Unit) (ρ := (Unit) ⊕ (Unit)) (fun s2_ =>
 M.ite (decide (s2_.1 < (((Int.toNat x.1) : Nat) : Int)))
 (M.guard (decide (0 ≤ x.2.1) && decide (x.2.1 ≤ x.2.1) && decide ((1 : Int) * x.2.1 ≤ 2 ^ 48))
 (M.new (.cells (repeatA [(.int .u8 0)] (Int.toNat x.2.1)) 5 false (0, 0) false) fun b4_ =>
 M.guard (decide (0 ≤ s2_.1) && decide (s2_.1 < (((Int.toNat x.1) : Nat) : Int)))
 (M.store ((Addr.mk b0_ 0 none).add ((Int.toNat s2_.1) * 1)) [(.slice (some (Addr.mk b4_ 0 none)) (Int.toNat x.2.1) (Int.toNat x.2.1))]
 (M.pure (.inl ((IntKind.i64.wrap (s2_.1 + 1)), ()))))))
 (M.pure (.inr (.inl (()))))) (0, ())) <| M.sum (fun (j6_ : Unit) =>
 M.pure (.slice (some (Addr.mk b0_ 0 none)) (Int.toNat x.1) (Int.toNat x.1))) (fun _ => M.stuck))

theorem e177 (X : Task → M Value) (L : LoopI) (x : (Int) × (Int) × Unit) : evBody CC { call := X, loop := L } 177 (shsInj [(.cell (.int .i64)), (.cell (.int .i64))] x) = f177 X L x := by kernel_rfl

/-- hayrick/matrix.add -/
def f178 (X : Task → M Value) (L : LoopI) (x : ((Option Addr × Nat × Nat)) × ((Option Addr × Nat × Nat)) × (Int) × Unit) : M Value :=
 M.bind (L (σ := (Int) × Unit) (ρ := (Unit) ⊕ (Unit)) (fun s1_ =>
 M.ite (decide (s1_.1 < ((x.2.1.2.1 : Nat) : Int)))
 (M.guard (decide (0 ≤ s1_.1) && decide (s1_.1 < ((x.2.1.2.1 : Nat) : Int)))
 (M.deref x.2.1.1 fun a3_ =>
 M.load (.cell (.int .u8)) 1 (a3_.add ((Int.toNat s1_.1) * 1)) fun (x4_ : Int) =>
 M.guard (decide (0 ≤ s1_.1) && decide (s1_.1 < ((x.1.2.1 : Nat) : Int)))
 (M.deref x.1.1 fun a5_ =>
 M.load (.cell (.int .u8)) 1 (a5_.add ((Int.toNat s1_.1) * 1)) fun (x6_ : Int) =>
 M.callS (.one (.cell (.int .u8))) (X (.call 158 [(.int .u8 x4_), (.int .u8 x.2.2.1)])) fun (r7_ : Int) =>
 M.load (.cell (.int .u8)) 1 (a5_.add ((Int.toNat s1_.1) * 1)) fun (x8_ : Int) => cond (veqv (.int .u8 x8_) (.int .u8 x6_)) (M.callS (.one (.cell (.int .u8))) (X (.call 157 [(.int .u8 x6_), (.int .u8 r7_)])) fun (r9_ : Int) =>
 M.guard (decide (0 ≤ s1_.1) && decide (s1_.1 < ((x.1.2.1 : Nat) : Int)))
 (M.deref x.1.1 fun a10_ =>
 M.store (a10_.add ((Int.toNat s1_.1) * 1)) [(.int .u8 r9_)]
 (M.pure (.inl ((IntKind.i64.wrap (s1_.1 + 1)), ()))))) M.stuck)))
 (M.pure (.inr (.inl (()))))) (0, ())) <| M.sum (fun (j12_ : Unit) =>
 M.pure (.tuple ⟨[]⟩)) (fun _ => M.stuck)

theorem e178 (X : Task → M Value) (L : LoopI) (x : ((Option Addr × Nat × Nat)) × ((Option Addr × Nat × Nat)) × (Int) × Unit) : evBody CC { call := X, loop := L } 178 (shsInj [(.cell .slice), (.cell .slice), (.cell (.int .u8))] x) = f178 X L x := by kernel_rfl

/-- slices.order2Ordered[int] -/
def f179 (X : Task → M Value) (L : LoopI) (x : ((Option Addr × Nat × Nat)) × (Int) × (Int) × (Option Addr) × Unit) : M Value :=
 M.guard (decide (0 ≤ x.2.2.1) && decide (x.2.2.1 < ((x.1.2.1 : Nat) : Int)))
 (M.deref x.1.1 fun a0_ =>
 M.load (.cell (.int .i64)) 1 (a0_.add ((Int.toNat x.2.2.1) * 1)) fun (x1_ : Int) =>
 M.guard (decide (0 ≤ x.2.1) && decide (x.2.1 < ((x.1.2.1 : Nat) : Int)))
 (M.deref x.1.1 fun a2_ =>
 M.load (.cell (.int .i64)) 1 (a2_.add ((Int.toNat x.2.1) * 1)) fun (x3_ : Int) =>
 M.callS (.one (.cell .bool)) (X (.call 152 [(.int .i64 x1_), (.int .i64 x3_)])) fun (r4_ : Bool) =>
 M.ite r4_
 (M.deref x.2.2.2.1 fun a5_ =>
 M.load (.cell (.int .i64)) 1 a5_ fun (x6_ : Int) =>
 M.deref x.2.2.2.1 fun a8_ =>
 M.store a8_ [(.int .i64 (IntKind.i64.wrap (x6_ + 1)))]
 (M.pure (.tuple ⟨[(.int .i64 x.2.2.1), (.int .i64 x.2.1)]⟩)))
 (M.pure (.tuple ⟨[(.int .i64 x.2.1), (.int .i64 x.2.2.1)]⟩))))

theorem e179 (X : Task → M Value) (L : LoopI) (x : ((Option Addr × Nat × Nat)) × (Int) × (Int) × (Option Addr) × Unit) : evBody CC { call := X, loop := L } 179 (shsInj [(.cell .slice), (.cell (.int .i64)), (.cell (.int .i64)), (.cell .ptr)] x) = f179 X L x := by kernel_rfl

/-- hayrick/field.tables -/
def f180 (X : Task → M Value) (L : LoopI) (x : Unit) : M Value :=
 M.new (.cells (zc 281) 281 false (0, 0) false) fun b0_ =>
 M.new (.cells (zc 282) 282 false (0, 0) false) fun b1_ =>
 M.bind (L (σ := (Int) × (Int) × Unit) (ρ := (Unit) ⊕ (Unit)) (fun s2_ =>
 M.ite (decide (s2_.2.1 < 255))
 (M.guard (decide (0 ≤ s2_.2.1) && decide (s2_.2.1 < ((255 : Nat) : Int)))
 (M.store ((Addr.mk b0_ 0 none).add ((Int.toNat s2_.2.1) * 1)) [(.int .u8 s2_.1)]
 (M.guard (decide (0 ≤ s2_.1) && decide (s2_.1 < ((256 : Nat) : Int)))
 (M.store ((Addr.mk b1_ 0 none).add ((Int.toNat s2_.1) * 1)) [(.int .i64 s2_.2.1)]
 (M.callS (.one (.cell (.int .u8))) (X (.call 174 [(.int .u8 s2_.1)])) fun (r4_ : Int) =>
 M.pure (.inl (r4_, (IntKind.i64.wrap (s2_.2.1 + 1)), ())))))))
 (M.pure (.inr (.inl (()))))) (1, 0, ())) <| M.sum (fun (j6_ : Unit) =>
 M.load .raw 255 (Addr.mk b0_ 0 none) fun (x7_ : List Value) =>
 M.load .raw 256 (Addr.mk b1_ 0 none) fun (x8_ : List Value) =>
 cond (Nat.beq x7_.length 255) (M.store (Addr.mk b0_ 0 none) x7_
 (M.load .raw 256 (Addr.mk b1_ 0 none) fun (x9_ : List Value) => cond (veqv (.agg ⟨x9_⟩) (.agg ⟨x8_⟩)) (cond (Nat.beq x8_.length 256) (M.store (Addr.mk b1_ 0 none) x8_
 (M.load .raw 255 (Addr.mk b0_ 0 none) fun (x10_ : List Value) =>
 M.load .raw 256 (Addr.mk b1_ 0 none) fun (x11_ : List Value) =>
 M.pure (.tuple ⟨[(.agg ⟨x10_⟩), (.agg ⟨x11_⟩)]⟩))) M.stuck) M.stuck)) M.stuck) (fun _ => M.stuck)

theorem e180 (X : Task → M Value) (L : LoopI) (x : Unit) : evBody CC { call := X, loop := L } 180 (shsInj [] x) = f180 X L x := by kernel_rfl

/-- hayrick/field.around -/
def f181 (X : Task → M Value) (L : LoopI) (x : (Int) × Unit) : M Value :=
 M.guard (!(decide (255 = 0)))
 (M.guard (!(decide (255 = 0)))
 (M.pure (.int .i64 (((IntKind.i64.wrap (((x.1 : Int).tmod 255) + 255)) : Int).tmod 255))))

theorem e181 (X : Task → M Value) (L : LoopI) (x : (Int) × Unit) : evBody CC { call := X, loop := L } 181 (shsInj [(.cell (.int .i64))] x) = f181 X L x := by kernel_rfl

end
end Go.Proofs.YtcfnndmehnppnaaGreat.storeKnown
