/-
  What the functions come to, part 1: each text, and that the reading gives it.
-/
import Derived.Test.YtidadbppnmnfmaaGreatDoorPaH
import Derived.KernelRfl
set_option linter.unusedVariables false
namespace Go.Proofs.YtidadbppnmnfmaaGreatDoor.pa
open Go Go.Eng
noncomputable section
/-- (*hayrick/store.Store).Pointers -/
def f137c0 (X : XT) (L : LoopI) (j6_ : (SL) × Unit) (x8_ : Int × Int × Int × Int × Int × Int × Int × Int × Int × Int × Int × Unit) : M (Value) :=
 M.callS (.tuple [(.cell .slice), (.cell (.int .i64))]) (X (.call 160 [(.agg ⟨[(.int .i64 x8_.1), (.int .i64 x8_.2.1), (.int .i64 x8_.2.2.1), (.int .i64 x8_.2.2.2.1), (.int .u32 x8_.2.2.2.2.1), (.int .u32 x8_.2.2.2.2.2.1), (.int .u32 x8_.2.2.2.2.2.2.1), (.int .u32 x8_.2.2.2.2.2.2.2.1), (.int .u32 x8_.2.2.2.2.2.2.2.2.1), (.int .u32 x8_.2.2.2.2.2.2.2.2.2.1), (.int .u32 x8_.2.2.2.2.2.2.2.2.2.2.1)]⟩), (.slice j6_.1.1 j6_.1.2.1 j6_.1.2.2)])) fun (r9_ : (SL) × (Int) × Unit) =>
 M.pure (.tuple ⟨[(.slice r9_.1.1 r9_.1.2.1 r9_.1.2.2), (.int .i64 r9_.2.1)]⟩)
def f137c1 (X : XT) (L : LoopI) (b0_ : Nat) (go7_ : ((SL) × Unit) → M (Value)) (x13_ : PA) : M (Value) :=
 M.load (.cell (.int .u32)) 1 ((Addr.mk b0_ 0 none).add 10) fun (x14_ : Int) =>
 M.callS (.tuple [(.cell .slice), (.cell (.int .i64))]) (X (.call 115 [(.pointer x13_), (.int .u32 x14_)])) fun (r15_ : (SL) × (Int) × Unit) =>
 M.ite (!(eqB r15_.2.1 0))
 (M.pure (.tuple ⟨[(.slice none 0 0), (.int .i64 r15_.2.1)]⟩))
 (M.callS (.tuple [(.cell .slice), (.cell (.int .i64))]) (X (.call 159 [(.slice r15_.1.1 r15_.1.2.1 r15_.1.2.2)])) fun (r17_ : (SL) × (Int) × Unit) =>
 M.ite (!(eqB r17_.2.1 0))
 (M.pure (.tuple ⟨[(.slice none 0 0), (.int .i64 r17_.2.1)]⟩))
 (go7_ (r17_.1, ())))
def f137c2 (X : XT) (L : LoopI) (x : (PA) × (Int × Int × Int × Int × Int × Int × Int × Int × Int × Int × Int × Unit) × Unit) (b0_ : Nat) : M (Value) :=
 M.join (fun (j6_ : (SL) × Unit) =>
 M.load (.agg [(.int .i64), (.int .i64), (.int .i64), (.int .i64), (.int .u32), (.int .u32), (.int .u32), (.int .u32), (.int .u32), (.int .u32), (.int .u32)]) 11 (Addr.mk b0_ 0 none) fun (x8_ : Int × Int × Int × Int × Int × Int × Int × Int × Int × Int × Int × Unit) =>
 f137c0 X L j6_ x8_) fun go7_ =>
 M.load (.cell (.int .u32)) 1 ((Addr.mk b0_ 0 none).add 10) fun (x10_ : Int) =>
 M.ite (!(eqB x10_ 0))
 (M.deref x.1 fun a12_ =>
 M.load (.cell .ptr) 1 (a12_.add 0) fun (x13_ : PA) =>
 f137c1 X L b0_ go7_ x13_)
 (go7_ ((none, 0, 0), ()))
def f137c3 (X : XT) (L : LoopI) (x : (PA) × (Int × Int × Int × Int × Int × Int × Int × Int × Int × Int × Int × Unit) × Unit) (b0_ : Nat) : M (Value) :=
 M.load (.agg [(.int .i64), (.int .i64), (.int .i64), (.int .i64), (.int .u32), (.int .u32), (.int .u32), (.int .u32), (.int .u32), (.int .u32), (.int .u32)]) 11 (Addr.mk b0_ 0 none) fun (x3_ : Int × Int × Int × Int × Int × Int × Int × Int × Int × Int × Int × Unit) =>
 M.callS (.one (.cell .bool)) (X (.call 45 [(.agg ⟨[(.int .i64 x3_.1), (.int .i64 x3_.2.1), (.int .i64 x3_.2.2.1), (.int .i64 x3_.2.2.2.1), (.int .u32 x3_.2.2.2.2.1), (.int .u32 x3_.2.2.2.2.2.1), (.int .u32 x3_.2.2.2.2.2.2.1), (.int .u32 x3_.2.2.2.2.2.2.2.1), (.int .u32 x3_.2.2.2.2.2.2.2.2.1), (.int .u32 x3_.2.2.2.2.2.2.2.2.2.1), (.int .u32 x3_.2.2.2.2.2.2.2.2.2.2.1)]⟩)])) fun (r4_ : Bool) =>
 M.ite (!r4_)
 (M.pure (.tuple ⟨[(.slice none 0 0), (.int .i64 1)]⟩))
 (f137c2 X L x b0_)
def f137c4 (X : XT) (L : LoopI) (x : (PA) × (Int × Int × Int × Int × Int × Int × Int × Int × Int × Int × Int × Unit) × Unit) : M (Value) :=
 M.new (.cells (Row.ofList [(.int .i64 x.2.1.1), (.int .i64 x.2.1.2.1), (.int .i64 x.2.1.2.2.1), (.int .i64 x.2.1.2.2.2.1), (.int .u32 x.2.1.2.2.2.2.1), (.int .u32 x.2.1.2.2.2.2.2.1), (.int .u32 x.2.1.2.2.2.2.2.2.1), (.int .u32 x.2.1.2.2.2.2.2.2.2.1), (.int .u32 x.2.1.2.2.2.2.2.2.2.2.1), (.int .u32 x.2.1.2.2.2.2.2.2.2.2.2.1), (.int .u32 x.2.1.2.2.2.2.2.2.2.2.2.2.1)]) 76 false (0, 0) false) fun b0_ =>
 M.callS (.one (.cell (.int .i64))) (X (.call 94 [(.pointer x.1), (.int .i64 1)])) fun (r1_ : Int) =>
 M.ite (!(eqB r1_ 0))
 (M.pure (.tuple ⟨[(.slice none 0 0), (.int .i64 r1_)]⟩))
 (f137c3 X L x b0_)
def f137 (X : XT) (L : LoopI) (x : (PA) × (Int × Int × Int × Int × Int × Int × Int × Int × Int × Int × Int × Unit) × Unit) : M Value :=
 f137c4 X L x

theorem e137 (X : XT) (L : LoopI) (x : (PA) × (Int × Int × Int × Int × Int × Int × Int × Int × Int × Int × Int × Unit) × Unit) : evBody CC { call := X, loop := L } 137 (shsInj [(.cell .ptr), (.agg [(.int .i64), (.int .i64), (.int .i64), (.int .i64), (.int .u32), (.int .u32), (.int .u32), (.int .u32), (.int .u32), (.int .u32), (.int .u32)])] x) = f137 X L x := by kernel_rfl

/-- slices.Chunk[[]byte,byte]$1 -/
def f138c0 (X : XT) (L : LoopI) (x : (Value) × (PA) × (PA) × Unit) (s0_ : (Int) × Unit) (x13_ : SL) (v14_ : Int) (v15_ : Int) : M (((Int) × Unit) ⊕ ((Unit) ⊕ ((Unit) ⊕ (Unit)))) :=
 M.guard (upB v15_ x13_.2.2)
 (let v16_ : Nat := (Int.toNat v15_)
 M.guard (upB v14_ v16_)
 (let v17_ : Nat := (Int.toNat v14_)
 M.guard (upB s0_.1 v17_)
 (let v18_ : Nat := (Int.toNat s0_.1)
 callV CC ⟨X, L⟩ x.1 [(.slice (x13_.1.map (·.add (v18_ * 1))) (v17_ - v18_) (v16_ - v18_))] fun w20_ => M.need (RSh.prj (.one (.cell .bool)) w20_) fun (r19_ : Bool) =>
 M.ite (!r19_)
 (M.pure (.inr (.inr (.inl (())))))
 (M.deref x.2.2.1 fun a22_ =>
 M.load (.cell (.int .i64)) 1 a22_ fun (x23_ : Int) =>
 M.pure (.inl ((addW .i64 s0_.1 x23_), ()))))))
def f138c1 (X : XT) (L : LoopI) (x : (Value) × (PA) × (PA) × Unit) (s0_ : (Int) × Unit) (x2_ : SL) : M (((Int) × Unit) ⊕ ((Unit) ⊕ ((Unit) ⊕ (Unit)))) :=
 M.ite (ltB s0_.1 ((x2_.2.1 : Nat) : Int))
 (M.deref x.2.2.1 fun a5_ =>
 M.load (.cell (.int .i64)) 1 a5_ fun (x6_ : Int) =>
 M.deref x.2.1 fun a7_ =>
 M.load (.cell .slice) 1 a7_ fun (x8_ : SL) =>
 M.guard (upB s0_.1 x8_.2.1)
 (let v10_ : Int := (((x8_.2.1 - (Int.toNat s0_.1)) : Nat) : Int)
 let v11_ : Int := (if v10_ < x6_ then v10_ else x6_)
 M.deref x.2.1 fun a12_ =>
 M.load (.cell .slice) 1 a12_ fun (x13_ : SL) =>
 f138c0 X L x s0_ x13_ (addW .i64 s0_.1 v11_) (addW .i64 s0_.1 v11_)))
 (M.pure (.inr (.inl (()))))
def f138 (X : XT) (L : LoopI) (x : (Value) × (PA) × (PA) × Unit) : M Value :=
 M.bind (L (σ := (Int) × Unit) (ρ := (Unit) ⊕ ((Unit) ⊕ (Unit))) (fun s0_ =>
 M.deref x.2.1 fun a1_ =>
 M.load (.cell .slice) 1 a1_ fun (x2_ : SL) =>
 f138c1 X L x s0_ x2_) (0, ())) <| M.sum (fun (j25_ : Unit) =>
 M.pure (.tuple ⟨[]⟩)) (M.sum (fun (j26_ : Unit) =>
 M.pure (.tuple ⟨[]⟩)) (fun _ => M.stuck))

theorem e138 (X : XT) (L : LoopI) (x : (Value) × (PA) × (PA) × Unit) : evBody CC { call := X, loop := L } 138 (shsInj [(.cell .val), (.cell .ptr), (.cell .ptr)] x) = f138 X L x := by kernel_rfl

/-- cmp.Compare[rune] -/
def f139 (X : XT) (L : LoopI) (x : (Int) × (Int) × Unit) : M Value :=
 M.callS (.one (.cell .bool)) (X (.call 161 [(.int .i32 x.1)])) fun (r0_ : Bool) =>
 M.callS (.one (.cell .bool)) (X (.call 161 [(.int .i32 x.2.1)])) fun (r1_ : Bool) =>
 M.ite r0_
 (M.ite r1_
 (M.pure (.int .i64 0))
 (M.pure (.int .i64 (-1))))
 (M.ite r1_
 (M.pure (.int .i64 1))
 (M.ite (ltB x.1 x.2.1)
 (M.pure (.int .i64 (-1)))
 (M.ite (ltB x.2.1 x.1)
 (M.pure (.int .i64 1))
 (M.pure (.int .i64 0)))))

theorem e139 (X : XT) (L : LoopI) (x : (Int) × (Int) × Unit) : evBody CC { call := X, loop := L } 139 (shsInj [(.cell (.int .i32)), (.cell (.int .i32))] x) = f139 X L x := by kernel_rfl

/-- internal/bytealg.CompareString -/
def f140 (X : XT) (L : LoopI) (x : (ByteArray) × (ByteArray) × Unit) : M Value :=
 M.pure (.int .i64 (Extern.BytealgCompare.cmp x.1 x.2.1))

theorem e140 (X : XT) (L : LoopI) (x : (ByteArray) × (ByteArray) × Unit) : evBody CC { call := X, loop := L } 140 (shsInj [(.cell .string), (.cell .string)] x) = f140 X L x := by kernel_rfl

/-- (*hayrick/logs.Log).Block$1 -/
def f141c0 (X : XT) (L : LoopI) (x : (PA) × (PA) × (PA) × Unit) (r7_ : (Int) × (Int) × (Int) × Unit) (r24_ : (SL) × (Int) × Unit) (r28_ : Int) : M (Value) :=
 M.callS (.one (.cell (.int .i64))) (X (.call 144 [(.int .i64 r28_)])) fun (r29_ : Int) =>
 let v31_ : Int := mulW .i64 (addW .i64 r29_ r7_.2.1) 112
 let v32_ : Int := addW .i64 v31_ 112
 M.guard (upB v32_ r24_.1.2.2)
 (let v33_ : Nat := (Int.toNat v32_)
 M.guard (upB v31_ v33_)
 (let v34_ : Nat := (Int.toNat v31_)
 M.callS (.one (.cell .slice)) (X (.call 129 [(.slice (r24_.1.1.map (·.add (v34_ * 1))) (v33_ - v34_) (r24_.1.2.2 - v34_))])) fun (r35_ : SL) =>
 M.deref x.2.2.1 fun a36_ =>
 M.store a36_ [(.slice r35_.1 r35_.2.1 r35_.2.2)]
 (M.pure (.int .i64 0))))
def f141c1 (X : XT) (L : LoopI) (x : (PA) × (PA) × (PA) × Unit) (r7_ : (Int) × (Int) × (Int) × Unit) (go21_ : ((Bool) × Unit) → M (Value)) : M (Value) :=
 M.deref x.1 fun a37_ =>
 M.load (.cell .ptr) 1 a37_ fun (x38_ : PA) =>
 M.deref x38_ fun a39_ =>
 M.load (.cell (.int .i64)) 1 (a39_.add 4) fun (x40_ : Int) =>
 M.ite (eqB r7_.1 x40_)
 (go21_ (true, ()))
 (M.deref x.1 fun a42_ =>
 M.load (.cell .ptr) 1 a42_ fun (x43_ : PA) =>
 M.deref x43_ fun a44_ =>
 M.load (.cell .slice) 1 (a44_.add 2) fun (x45_ : SL) =>
 M.guard (inB r7_.1 x45_.2.1)
 (M.deref x45_.1 fun a46_ =>
 M.load (.cell (.int .u64)) 1 (a46_.add ((Int.toNat r7_.1) * 1)) fun (x47_ : Int) =>
 go21_ ((eqB x47_ 0), ())))
def f141c2 (X : XT) (L : LoopI) (x : (PA) × (PA) × (PA) × Unit) (r7_ : (Int) × (Int) × (Int) × Unit) : M (Value) :=
 M.join (fun (j20_ : (Bool) × Unit) =>
 M.ite j20_.1
 (M.pure (.int .i64 6))
 (M.deref x.1 fun a22_ =>
 M.load (.cell .ptr) 1 a22_ fun (x23_ : PA) =>
 M.callS (.tuple [(.cell .slice), (.cell (.int .i64))]) (X (.call 143 [(.pointer x23_), (.int .i64 r7_.1)])) fun (r24_ : (SL) × (Int) × Unit) =>
 M.ite (!(eqB r24_.2.1 0))
 (M.pure (.int .i64 r24_.2.1))
 (M.deref x.1 fun a26_ =>
 M.load (.cell .ptr) 1 a26_ fun (x27_ : PA) =>
 M.callS (.one (.cell (.int .i64))) (X (.call 128 [(.pointer x27_)])) fun (r28_ : Int) =>
 f141c0 X L x r7_ r24_ r28_))) fun go21_ =>
 f141c1 X L x r7_ go21_
def f141c3 (X : XT) (L : LoopI) (x : (PA) × (PA) × (PA) × Unit) (r7_ : (Int) × (Int) × (Int) × Unit) (j10_ : (Bool) × Unit) : M (Value) :=
 M.ite j10_.1
 (M.deref x.1 fun a12_ =>
 M.load (.cell .ptr) 1 a12_ fun (x13_ : PA) =>
 M.deref x13_ fun a14_ =>
 M.load (.cell .slice) 1 (a14_.add 6) fun (x15_ : SL) =>
 M.guard (inB r7_.2.1 x15_.2.1)
 (M.deref x15_.1 fun a16_ =>
 M.load (.cell .slice) 1 (a16_.add ((Int.toNat r7_.2.1) * 1)) fun (x17_ : SL) =>
 M.callS (.one (.cell .slice)) (X (.call 129 [(.slice x17_.1 x17_.2.1 x17_.2.2)])) fun (r18_ : SL) =>
 M.deref x.2.2.1 fun a19_ =>
 M.store a19_ [(.slice r18_.1 r18_.2.1 r18_.2.2)]
 (M.pure (.int .i64 0))))
 (f141c2 X L x r7_)
def f141c4 (X : XT) (L : LoopI) (x : (PA) × (PA) × (PA) × Unit) (r7_ : (Int) × (Int) × (Int) × Unit) (j8_ : (Bool) × Unit) : M (Value) :=
 M.ite j8_.1
 (M.pure (.int .i64 6))
 (M.join (fun (j10_ : (Bool) × Unit) =>
 f141c3 X L x r7_ j10_) fun go11_ =>
 M.deref x.1 fun a49_ =>
 M.load (.cell .ptr) 1 a49_ fun (x50_ : PA) =>
 M.deref x50_ fun a51_ =>
 M.load (.cell (.int .i64)) 1 (a51_.add 4) fun (x52_ : Int) =>
 M.ite (eqB r7_.1 x52_)
 (M.deref x.1 fun a54_ =>
 M.load (.cell .ptr) 1 a54_ fun (x55_ : PA) =>
 M.deref x55_ fun a56_ =>
 M.load (.cell .slice) 1 (a56_.add 6) fun (x57_ : SL) =>
 go11_ ((ltB r7_.2.1 ((x57_.2.1 : Nat) : Int)), ()))
 (go11_ (false, ())))
def f141c5 (X : XT) (L : LoopI) (x : (PA) × (PA) × (PA) × Unit) (x3_ : Int) (r4_ : Int) : M (Value) :=
 M.deref x.2.1 fun a5_ =>
 M.load (.cell (.int .u32)) 1 a5_ fun (x6_ : Int) => cond (veqv (.int .u32 x6_) (.int .u32 x3_)) (M.callS (.tuple [(.cell (.int .i64)), (.cell (.int .i64)), (.cell (.int .i64))]) (X (.call 142 [(.int .i64 r4_), (.int .u32 x3_)])) fun (r7_ : (Int) × (Int) × (Int) × Unit) =>
 M.join (fun (j8_ : (Bool) × Unit) =>
 f141c4 X L x r7_ j8_) fun go9_ =>
 M.ite (!(eqB r7_.2.2.1 0))
 (go9_ (true, ()))
 (M.deref x.1 fun a61_ =>
 M.load (.cell .ptr) 1 a61_ fun (x62_ : PA) =>
 M.deref x62_ fun a63_ =>
 M.load (.cell .slice) 1 (a63_.add 2) fun (x64_ : SL) =>
 go9_ ((leB ((x64_.2.1 : Nat) : Int) r7_.1), ()))) M.stuck
def f141 (X : XT) (L : LoopI) (x : (PA) × (PA) × (PA) × Unit) : M Value :=
 M.deref x.1 fun a0_ =>
 M.load (.cell .ptr) 1 a0_ fun (x1_ : PA) =>
 M.deref x.2.1 fun a2_ =>
 M.load (.cell (.int .u32)) 1 a2_ fun (x3_ : Int) =>
 M.callS (.one (.cell (.int .i64))) (X (.call 128 [(.pointer x1_)])) fun (r4_ : Int) =>
 f141c5 X L x x3_ r4_

theorem e141 (X : XT) (L : LoopI) (x : (PA) × (PA) × (PA) × Unit) : evBody CC { call := X, loop := L } 141 (shsInj [(.cell .ptr), (.cell .ptr), (.cell .ptr)] x) = f141 X L x := by kernel_rfl

/-- hayrick/summary.Where -/
def f142c0 (X : XT) (L : LoopI) (x : (Int) × (Int) × Unit) (v6_ : Int) (v8_ : Int) (v9_ : Int) : M (Value) :=
 M.guard (!(decide (v9_ = 0)))
 (let v10_ : Int := (v8_ : Int).tmod v9_
 M.join (fun (j11_ : (Bool) × Unit) =>
 M.ite j11_.1
 (M.pure (.tuple ⟨[(.int .i64 0), (.int .i64 0), (.int .i64 6)]⟩))
 (M.callS (.one (.cell (.int .i64))) (X (.call 144 [(.int .i64 x.1)])) fun (r13_ : Int) =>
 M.pure (.tuple ⟨[(.int .i64 v6_), (.int .i64 (subW .i64 v10_ r13_)), (.int .i64 0)]⟩))) fun go12_ =>
 M.ite (leB 128 v6_)
 (go12_ (true, ()))
 (M.callS (.one (.cell (.int .i64))) (X (.call 144 [(.int .i64 x.1)])) fun (r16_ : Int) =>
 go12_ ((ltB v10_ r16_), ())))
def f142 (X : XT) (L : LoopI) (x : (Int) × (Int) × Unit) : M Value :=
 M.callS (.one (.cell .bool)) (X (.call 149 [(.int .i64 x.1)])) fun (r0_ : Bool) =>
 M.ite (!r0_)
 (M.pure (.tuple ⟨[(.int .i64 0), (.int .i64 0), (.int .i64 1)]⟩))
 (M.ite (eqB x.2.1 0)
 (M.pure (.tuple ⟨[(.int .i64 0), (.int .i64 0), (.int .i64 6)]⟩))
 (let v5_ : Int := mulW .i64 4 x.1
 M.guard (!(decide (v5_ = 0)))
 (f142c0 X L x (IntKind.i64.wrap (((wrapW .i64 (subW .u32 x.2.1 1)) : Int).tdiv v5_)) (wrapW .i64 (subW .u32 x.2.1 1)) (mulW .i64 4 x.1))))

theorem e142 (X : XT) (L : LoopI) (x : (Int) × (Int) × Unit) : evBody CC { call := X, loop := L } 142 (shsInj [(.cell (.int .i64)), (.cell (.int .u32))] x) = f142 X L x := by kernel_rfl

/-- hayrick/summary.Sum -/
def f144 (X : XT) (L : LoopI) (x : (Int) × Unit) : M Value :=
 M.callS (.one (.cell .bool)) (X (.call 149 [(.int .i64 x.1)])) fun (r0_ : Bool) =>
 M.ite (!r0_)
 (M.pure (.int .i64 0))
 (M.guard (!(decide (15 = 0)))
 (M.pure (.int .i64 (IntKind.i64.wrap (((addW .i64 (mulW .i64 4 x.1) 14) : Int).tdiv 15)))))

theorem e144 (X : XT) (L : LoopI) (x : (Int) × Unit) : evBody CC { call := X, loop := L } 144 (shsInj [(.cell (.int .i64))] x) = f144 X L x := by kernel_rfl

/-- hayrick/inode.Take$1 -/
def f145c0 (X : XT) (L : LoopI) (x : (Int) × (PA) × Unit) (x1_ : SL) (v2_ : Nat) (v3_ : Int) : M (Value) :=
 M.bind (L (σ := (Int) × (Int) × Unit) (ρ := ((Int) × Unit) ⊕ (Unit)) (fun s4_ =>
 M.ite (ltB s4_.2.1 v3_)
 (M.guard (inB s4_.2.1 (v2_ - 0))
 (M.deref (x1_.1.map (·.add (0 * 1))) fun a6_ =>
 M.load (.cell (.int .u8)) 1 (a6_.add ((Int.toNat s4_.2.1) * 1)) fun (x7_ : Int) =>
 M.guard (decide (0 ≤ 8))
 (M.pure (.inl ((orW .i64 (IntKind.i64.wrap (s4_.1 * 2 ^ (min (Int.toNat 8) IntKind.i64.bits))) (wrapW .i64 x7_)), (addW .i64 s4_.2.1 1), ())))))
 (M.pure (.inr (.inl (s4_.1, ()))))) (0, 0, ())) <| M.sum (fun (j12_ : (Int) × Unit) =>
 M.deref x.2.1 fun a13_ =>
 M.load (.cell .slice) 1 a13_ fun (x14_ : SL) =>
 M.guard (upB x.1 x14_.2.1)
 (let v15_ : Nat := (Int.toNat x.1)
 M.deref x.2.1 fun a16_ =>
 M.store a16_ [(.slice (x14_.1.map (·.add (v15_ * 1))) (x14_.2.1 - v15_) (x14_.2.2 - v15_))]
 (M.pure (.int .i64 j12_.1)))) (fun _ => M.stuck)
def f145 (X : XT) (L : LoopI) (x : (Int) × (PA) × Unit) : M Value :=
 M.deref x.2.1 fun a0_ =>
 M.load (.cell .slice) 1 a0_ fun (x1_ : SL) =>
 M.guard (upB x.1 x1_.2.2)
 (let v2_ : Nat := (Int.toNat x.1)
 f145c0 X L x x1_ v2_ (((v2_ - 0) : Nat) : Int))

theorem e145 (X : XT) (L : LoopI) (x : (Int) × (PA) × Unit) : evBody CC { call := X, loop := L } 145 (shsInj [(.cell (.int .i64)), (.cell .ptr)] x) = f145 X L x := by kernel_rfl

/-- hayrick/inode.Put -/
def f146c0 (X : XT) (L : LoopI) (b11_ : Nat) (s14_ : (SL) × (Int) × Unit) (v15_ : Bool) : M (((SL) × (Int) × Unit) ⊕ (((SL) × Unit) ⊕ (Unit))) :=
 M.ite v15_
 (M.load (.cell (.int .u32)) 1 ((Addr.mk b11_ 0 none).add 0) fun (x16_ : Int) =>
 let v17_ : Int := mulW .i64 8 s14_.2.1
 M.guard (decide (0 ≤ v17_))
 (M.new (.cells (Row.ofList [(.int .u8 (wrapW .u8 (((x16_ : Int)).fdiv (2 ^ (min (Int.toNat v17_) IntKind.u32.bits)))))]) 5 false (0, 0) false) fun b20_ =>
 M.append 5 1 1 s14_.1.1 s14_.1.2.1 s14_.1.2.2 (.slice (some (Addr.mk b20_ 0 none)) 1 1) fun a21_ n22_ c23_ =>
 M.pure (.inl ((a21_, n22_, c23_), (subW .i64 s14_.2.1 1), ()))))
 (M.pure (.inr (.inl (s14_.1, ()))))
def f146c1 (X : XT) (L : LoopI) (s7_ : (SL) × (Int) × Unit) (v10_ : List Value) : M (((SL) × (Int) × Unit) ⊕ (((SL) × Unit) ⊕ (Unit))) :=
 M.new (.cells (Row.ofList [(.int .u32 0), (.int .i64 0)]) 268 false (0, 0) false) fun b11_ =>
 cond (Nat.beq v10_.length 2) (M.store (Addr.mk b11_ 0 none) v10_
 (M.load (.cell (.int .i64)) 1 ((Addr.mk b11_ 0 none).add 1) fun (x12_ : Int) =>
 M.bind (L (σ := (SL) × (Int) × Unit) (ρ := ((SL) × Unit) ⊕ (Unit)) (fun s14_ =>
 f146c0 X L b11_ s14_ (leB 0 s14_.2.1)) (s7_.1, (subW .i64 x12_ 1), ())) <| M.sum (fun (j25_ : (SL) × Unit) =>
 M.pure (.inl (j25_.1, (addW .i64 s7_.2.1 1), ()))) (fun _ => M.stuck))) M.stuck
def f146c2 (X : XT) (L : LoopI) (r6_ : Int × Int × Int × Int × Int × Int × Int × Int × Int × Int × Int × Int × Int × Int × Int × Int × Int × Int × Int × Int × Int × Int × Unit) (s7_ : (SL) × (Int) × Unit) : M (((SL) × (Int) × Unit) ⊕ (((SL) × Unit) ⊕ (Unit))) :=
 M.guard (inB s7_.2.1 11)
 (let v9_ : List Value := [(.int .u32 r6_.1), (.int .i64 r6_.2.1), (.int .u32 r6_.2.2.1), (.int .i64 r6_.2.2.2.1), (.int .u32 r6_.2.2.2.2.1), (.int .i64 r6_.2.2.2.2.2.1), (.int .u32 r6_.2.2.2.2.2.2.1), (.int .i64 r6_.2.2.2.2.2.2.2.1), (.int .u32 r6_.2.2.2.2.2.2.2.2.1), (.int .i64 r6_.2.2.2.2.2.2.2.2.2.1), (.int .u32 r6_.2.2.2.2.2.2.2.2.2.2.1), (.int .i64 r6_.2.2.2.2.2.2.2.2.2.2.2.1), (.int .u32 r6_.2.2.2.2.2.2.2.2.2.2.2.2.1), (.int .i64 r6_.2.2.2.2.2.2.2.2.2.2.2.2.2.1), (.int .u32 r6_.2.2.2.2.2.2.2.2.2.2.2.2.2.2.1), (.int .i64 r6_.2.2.2.2.2.2.2.2.2.2.2.2.2.2.2.1), (.int .u32 r6_.2.2.2.2.2.2.2.2.2.2.2.2.2.2.2.2.1), (.int .i64 r6_.2.2.2.2.2.2.2.2.2.2.2.2.2.2.2.2.2.1), (.int .u32 r6_.2.2.2.2.2.2.2.2.2.2.2.2.2.2.2.2.2.2.1), (.int .i64 r6_.2.2.2.2.2.2.2.2.2.2.2.2.2.2.2.2.2.2.2.1), (.int .u32 r6_.2.2.2.2.2.2.2.2.2.2.2.2.2.2.2.2.2.2.2.2.1), (.int .i64 r6_.2.2.2.2.2.2.2.2.2.2.2.2.2.2.2.2.2.2.2.2.2.1)]
 cond (Nat.ble (((Int.toNat s7_.2.1) * 2) + 2) v9_.length) (f146c1 X L s7_ ((v9_.drop ((Int.toNat s7_.2.1) * 2)).take 2)) M.stuck)
def f146c3 (X : XT) (L : LoopI) (b4_ : Nat) (x5_ : Int × Int × Int × Int × Int × Int × Int × Int × Int × Int × Int × Unit) : M (Value) :=
 M.callS (.one (.agg [(.int .u32), (.int .i64), (.int .u32), (.int .i64), (.int .u32), (.int .i64), (.int .u32), (.int .i64), (.int .u32), (.int .i64), (.int .u32), (.int .i64), (.int .u32), (.int .i64), (.int .u32), (.int .i64), (.int .u32), (.int .i64), (.int .u32), (.int .i64), (.int .u32), (.int .i64)])) (X (.call 164 [(.agg ⟨[(.int .i64 x5_.1), (.int .i64 x5_.2.1), (.int .i64 x5_.2.2.1), (.int .i64 x5_.2.2.2.1), (.int .u32 x5_.2.2.2.2.1), (.int .u32 x5_.2.2.2.2.2.1), (.int .u32 x5_.2.2.2.2.2.2.1), (.int .u32 x5_.2.2.2.2.2.2.2.1), (.int .u32 x5_.2.2.2.2.2.2.2.2.1), (.int .u32 x5_.2.2.2.2.2.2.2.2.2.1), (.int .u32 x5_.2.2.2.2.2.2.2.2.2.2.1)]⟩)])) fun (r6_ : Int × Int × Int × Int × Int × Int × Int × Int × Int × Int × Int × Int × Int × Int × Int × Int × Int × Int × Int × Int × Int × Int × Unit) =>
 M.bind (L (σ := (SL) × (Int) × Unit) (ρ := ((SL) × Unit) ⊕ (Unit)) (fun s7_ =>
 M.ite (ltB s7_.2.1 11)
 (f146c2 X L r6_ s7_)
 (M.pure (.inr (.inl (s7_.1, ()))))) (((some (Addr.mk b4_ 0 none)), (Int.toNat 0), (Int.toNat 112)), 0, ())) <| M.sum (fun (j27_ : (SL) × Unit) =>
 M.guard (upB 112 j27_.1.2.2)
 (M.pure (.tuple ⟨[(.slice (j27_.1.1.map (·.add (0 * 1))) ((Int.toNat 112) - 0) (j27_.1.2.2 - 0)), (.int .i64 0)]⟩))) (fun _ => M.stuck)
def f146c4 (X : XT) (L : LoopI) (b0_ : Nat) (v3_ : Bool) : M (Value) :=
 M.ite v3_
 (M.pure (.tuple ⟨[(.slice none 0 0), (.int .i64 1)]⟩))
 (M.guard (decide (0 ≤ 0) && decide (0 ≤ 112) && decide ((1 : Int) * 112 ≤ 2 ^ 48))
 (M.new (.cells (Row.rep [(.int .u8 0)] (Int.toNat 112)) 5 false (0, 0) false) fun b4_ =>
 M.load (.agg [(.int .i64), (.int .i64), (.int .i64), (.int .i64), (.int .u32), (.int .u32), (.int .u32), (.int .u32), (.int .u32), (.int .u32), (.int .u32)]) 11 (Addr.mk b0_ 0 none) fun (x5_ : Int × Int × Int × Int × Int × Int × Int × Int × Int × Int × Int × Unit) =>
 f146c3 X L b4_ x5_))
def f146c5 (X : XT) (L : LoopI) (b0_ : Nat) : M (Value) :=
 M.load (.agg [(.int .i64), (.int .i64), (.int .i64), (.int .i64), (.int .u32), (.int .u32), (.int .u32), (.int .u32), (.int .u32), (.int .u32), (.int .u32)]) 11 (Addr.mk b0_ 0 none) fun (x1_ : Int × Int × Int × Int × Int × Int × Int × Int × Int × Int × Int × Unit) =>
 M.callS (.one (.cell .bool)) (X (.call 45 [(.agg ⟨[(.int .i64 x1_.1), (.int .i64 x1_.2.1), (.int .i64 x1_.2.2.1), (.int .i64 x1_.2.2.2.1), (.int .u32 x1_.2.2.2.2.1), (.int .u32 x1_.2.2.2.2.2.1), (.int .u32 x1_.2.2.2.2.2.2.1), (.int .u32 x1_.2.2.2.2.2.2.2.1), (.int .u32 x1_.2.2.2.2.2.2.2.2.1), (.int .u32 x1_.2.2.2.2.2.2.2.2.2.1), (.int .u32 x1_.2.2.2.2.2.2.2.2.2.2.1)]⟩)])) fun (r2_ : Bool) =>
 f146c4 X L b0_ (!r2_)
def f146 (X : XT) (L : LoopI) (x : (Int × Int × Int × Int × Int × Int × Int × Int × Int × Int × Int × Unit) × Unit) : M Value :=
 M.new (.cells (Row.ofList [(.int .i64 x.1.1), (.int .i64 x.1.2.1), (.int .i64 x.1.2.2.1), (.int .i64 x.1.2.2.2.1), (.int .u32 x.1.2.2.2.2.1), (.int .u32 x.1.2.2.2.2.2.1), (.int .u32 x.1.2.2.2.2.2.2.1), (.int .u32 x.1.2.2.2.2.2.2.2.1), (.int .u32 x.1.2.2.2.2.2.2.2.2.1), (.int .u32 x.1.2.2.2.2.2.2.2.2.2.1), (.int .u32 x.1.2.2.2.2.2.2.2.2.2.2.1)]) 76 false (0, 0) false) fun b0_ =>
 f146c5 X L b0_

theorem e146 (X : XT) (L : LoopI) (x : (Int × Int × Int × Int × Int × Int × Int × Int × Int × Int × Int × Unit) × Unit) : evBody CC { call := X, loop := L } 146 (shsInj [(.agg [(.int .i64), (.int .i64), (.int .i64), (.int .i64), (.int .u32), (.int .u32), (.int .u32), (.int .u32), (.int .u32), (.int .u32), (.int .u32)])] x) = f146 X L x := by kernel_rfl

/-- slices.pdqsortOrdered[int] -/
def f147c0 (X : XT) (L : LoopI) (x : (SL) × (Int) × (Int) × (Int) × Unit) (s0_ : (Int) × (Int) × (Int) × (Bool) × (Bool) × Unit) (go2_ : ((Int) × (Int) × (Int) × (Bool) × (Bool) × Unit) → M (((Int) × (Int) × (Int) × (Bool) × (Bool) × Unit) ⊕ ((Unit) ⊕ (Unit)))) (v3_ : Int) (j8_ : (Int) × Unit) (r18_ : (Int) × (Bool) × Unit) (v19_ : Int) (v20_ : Int) : M (((Int) × (Int) × (Int) × (Bool) × (Bool) × Unit) ⊕ ((Unit) ⊕ (Unit))) :=
 M.guard (!(decide (8 = 0)))
 (let v21_ : Int := IntKind.i64.wrap ((v3_ : Int).tdiv 8)
 M.ite (ltB v19_ v20_)
 (M.callS (.tuple []) (X (.call 147 [(.slice x.1.1 x.1.2.1 x.1.2.2), (.int .i64 s0_.1), (.int .i64 r18_.1), (.int .i64 j8_.1)])) fun (r24_ : Unit) =>
 go2_ ((addW .i64 r18_.1 1), s0_.2.1, j8_.1, (leB v21_ v19_), r18_.2.1, ()))
 (M.callS (.tuple []) (X (.call 147 [(.slice x.1.1 x.1.2.1 x.1.2.2), (.int .i64 (addW .i64 r18_.1 1)), (.int .i64 s0_.2.1), (.int .i64 j8_.1)])) fun (r28_ : Unit) =>
 go2_ (s0_.1, r18_.1, j8_.1, (leB v21_ v20_), r18_.2.1, ())))
def f147c1 (X : XT) (L : LoopI) (x : (SL) × (Int) × (Int) × (Int) × Unit) (s0_ : (Int) × (Int) × (Int) × (Bool) × (Bool) × Unit) (go2_ : ((Int) × (Int) × (Int) × (Bool) × (Bool) × Unit) → M (((Int) × (Int) × (Int) × (Bool) × (Bool) × Unit) ⊕ ((Unit) ⊕ (Unit)))) (v3_ : Int) (j8_ : (Int) × Unit) (j11_ : (Int) × (Int) × Unit) (j15_ : (Bool) × Unit) : M (((Int) × (Int) × (Int) × (Bool) × (Bool) × Unit) ⊕ ((Unit) ⊕ (Unit))) :=
 M.ite j15_.1
 (M.callS (.one (.cell (.int .i64))) (X (.call 172 [(.slice x.1.1 x.1.2.1 x.1.2.2), (.int .i64 s0_.1), (.int .i64 s0_.2.1), (.int .i64 j11_.1)])) fun (r17_ : Int) =>
 go2_ (r17_, s0_.2.1, j8_.1, s0_.2.2.2.1, s0_.2.2.2.2.1, ()))
 (M.callS (.tuple [(.cell (.int .i64)), (.cell .bool)]) (X (.call 173 [(.slice x.1.1 x.1.2.1 x.1.2.2), (.int .i64 s0_.1), (.int .i64 s0_.2.1), (.int .i64 j11_.1)])) fun (r18_ : (Int) × (Bool) × Unit) =>
 f147c0 X L x s0_ go2_ v3_ j8_ r18_ (subW .i64 r18_.1 s0_.1) (subW .i64 s0_.2.1 r18_.1))
def f147c2 (X : XT) (L : LoopI) (x : (SL) × (Int) × (Int) × (Int) × Unit) (s0_ : (Int) × (Int) × (Int) × (Bool) × (Bool) × Unit) (go2_ : ((Int) × (Int) × (Int) × (Bool) × (Bool) × Unit) → M (((Int) × (Int) × (Int) × (Bool) × (Bool) × Unit) ⊕ ((Unit) ⊕ (Unit)))) (v3_ : Int) (j8_ : (Int) × Unit) (j11_ : (Int) × (Int) × Unit) : M (((Int) × (Int) × (Int) × (Bool) × (Bool) × Unit) ⊕ ((Unit) ⊕ (Unit))) :=
 M.join (fun (j15_ : (Bool) × Unit) =>
 f147c1 X L x s0_ go2_ v3_ j8_ j11_ j15_) fun go16_ =>
 M.ite (ltB 0 s0_.1)
 (let v30_ : Int := subW .i64 s0_.1 1
 M.guard (inB v30_ x.1.2.1)
 (M.deref x.1.1 fun a31_ =>
 M.load (.cell (.int .i64)) 1 (a31_.add ((Int.toNat v30_) * 1)) fun (x32_ : Int) =>
 M.guard (inB j11_.1 x.1.2.1)
 (M.deref x.1.1 fun a33_ =>
 M.load (.cell (.int .i64)) 1 (a33_.add ((Int.toNat j11_.1) * 1)) fun (x34_ : Int) =>
 M.callS (.one (.cell .bool)) (X (.call 171 [(.int .i64 x32_), (.int .i64 x34_)])) fun (r35_ : Bool) =>
 go16_ ((!r35_), ()))))
 (go16_ (false, ()))
def f147c3 (X : XT) (L : LoopI) (x : (SL) × (Int) × (Int) × (Int) × Unit) (s0_ : (Int) × (Int) × (Int) × (Bool) × (Bool) × Unit) (go2_ : ((Int) × (Int) × (Int) × (Bool) × (Bool) × Unit) → M (((Int) × (Int) × (Int) × (Bool) × (Bool) × Unit) ⊕ ((Unit) ⊕ (Unit)))) (v3_ : Int) (j8_ : (Int) × Unit) (r10_ : (Int) × (Int) × Unit) : M (((Int) × (Int) × (Int) × (Bool) × (Bool) × Unit) ⊕ ((Unit) ⊕ (Unit))) :=
 M.join (fun (j11_ : (Int) × (Int) × Unit) =>
 M.join (fun (j13_ : Unit) =>
 f147c2 X L x s0_ go2_ v3_ j8_ j11_) fun go14_ =>
 M.join (fun (j37_ : (Bool) × Unit) =>
 M.ite j37_.1
 (M.callS (.one (.cell .bool)) (X (.call 170 [(.slice x.1.1 x.1.2.1 x.1.2.2), (.int .i64 s0_.1), (.int .i64 s0_.2.1)])) fun (r39_ : Bool) =>
 M.ite r39_
 (M.pure (.inr (.inl (()))))
 (go14_ (())))
 (go14_ (()))) fun go38_ =>
 M.ite s0_.2.2.2.1
 (M.ite s0_.2.2.2.2.1
 (go38_ ((eqB j11_.2.1 1), ()))
 (go38_ (false, ())))
 (go38_ (false, ()))) fun go12_ =>
 M.ite (eqB r10_.2.1 2)
 (M.callS (.tuple []) (X (.call 169 [(.slice x.1.1 x.1.2.1 x.1.2.2), (.int .i64 s0_.1), (.int .i64 s0_.2.1)])) fun (r42_ : Unit) =>
 go12_ ((subW .i64 (subW .i64 s0_.2.1 1) (subW .i64 r10_.1 s0_.1)), 1, ()))
 (go12_ (r10_.1, r10_.2.1, ()))
def f147c4 (X : XT) (L : LoopI) (x : (SL) × (Int) × (Int) × (Int) × Unit) (s0_ : (Int) × (Int) × (Int) × (Bool) × (Bool) × Unit) (go2_ : ((Int) × (Int) × (Int) × (Bool) × (Bool) × Unit) → M (((Int) × (Int) × (Int) × (Bool) × (Bool) × Unit) ⊕ ((Unit) ⊕ (Unit)))) (v3_ : Int) (v6_ : Bool) : M (((Int) × (Int) × (Int) × (Bool) × (Bool) × Unit) ⊕ ((Unit) ⊕ (Unit))) :=
 M.ite v6_
 (M.callS (.tuple []) (X (.call 166 [(.slice x.1.1 x.1.2.1 x.1.2.2), (.int .i64 s0_.1), (.int .i64 s0_.2.1)])) fun (r7_ : Unit) =>
 M.pure (.inr (.inl (()))))
 (M.join (fun (j8_ : (Int) × Unit) =>
 M.callS (.tuple [(.cell (.int .i64)), (.cell (.int .i64))]) (X (.call 168 [(.slice x.1.1 x.1.2.1 x.1.2.2), (.int .i64 s0_.1), (.int .i64 s0_.2.1)])) fun (r10_ : (Int) × (Int) × Unit) =>
 f147c3 X L x s0_ go2_ v3_ j8_ r10_) fun go9_ =>
 M.ite (!s0_.2.2.2.1)
 (M.callS (.tuple []) (X (.call 167 [(.slice x.1.1 x.1.2.1 x.1.2.2), (.int .i64 s0_.1), (.int .i64 s0_.2.1)])) fun (r47_ : Unit) =>
 go9_ ((subW .i64 s0_.2.2.1 1), ()))
 (go9_ (s0_.2.2.1, ())))
def f147c5 (X : XT) (L : LoopI) (x : (SL) × (Int) × (Int) × (Int) × Unit) : M (Value) :=
 M.bind (L (σ := (Int) × (Int) × (Int) × (Bool) × (Bool) × Unit) (ρ := (Unit) ⊕ (Unit)) (fun s0_ =>
 M.join (fun (j1_ : (Int) × (Int) × (Int) × (Bool) × (Bool) × Unit) =>
 M.pure (.inl (j1_.1, j1_.2.1, j1_.2.2.1, j1_.2.2.2.1, j1_.2.2.2.2.1, ()))) fun go2_ =>
 let v3_ : Int := subW .i64 s0_.2.1 s0_.1
 M.ite (leB v3_ 12)
 (M.callS (.tuple []) (X (.call 165 [(.slice x.1.1 x.1.2.1 x.1.2.2), (.int .i64 s0_.1), (.int .i64 s0_.2.1)])) fun (r5_ : Unit) =>
 M.pure (.inr (.inl (()))))
 (f147c4 X L x s0_ go2_ v3_ (eqB s0_.2.2.1 0))) (x.2.1, x.2.2.1, x.2.2.2.1, true, true, ())) <| M.sum (fun (j49_ : Unit) =>
 M.pure (.tuple ⟨[]⟩)) (fun _ => M.stuck)
def f147 (X : XT) (L : LoopI) (x : (SL) × (Int) × (Int) × (Int) × Unit) : M Value :=
 f147c5 X L x

theorem e147 (X : XT) (L : LoopI) (x : (SL) × (Int) × (Int) × (Int) × Unit) : evBody CC { call := X, loop := L } 147 (shsInj [(.cell .slice), (.cell (.int .i64)), (.cell (.int .i64)), (.cell (.int .i64))] x) = f147 X L x := by kernel_rfl

/-- math/bits.Len -/
def f148 (X : XT) (L : LoopI) (x : (Int) × Unit) : M Value :=
 M.callS (.one (.cell (.int .i64))) (X (.call 175 [(.int .u64 x.1)])) fun (r0_ : Int) =>
 M.pure (.int .i64 r0_)

theorem e148 (X : XT) (L : LoopI) (x : (Int) × Unit) : evBody CC { call := X, loop := L } 148 (shsInj [(.cell (.int .u64))] x) = f148 X L x := by kernel_rfl

/-- hayrick/summary.right -/
def f149 (X : XT) (L : LoopI) (x : (Int) × Unit) : M Value :=
 M.join (fun (j0_ : (Bool) × Unit) =>
 M.pure (.bool j0_.1)) fun go1_ =>
 M.ite (leB 1 x.1)
 (go1_ ((leB x.1 254), ()))
 (go1_ (false, ()))

theorem e149 (X : XT) (L : LoopI) (x : (Int) × Unit) : evBody CC { call := X, loop := L } 149 (shsInj [(.cell (.int .i64))] x) = f149 X L x := by kernel_rfl

/-- hayrick/points.All -/
def f160c0 (X : XT) (L : LoopI) (x : (Int × Int × Int × Int × Int × Int × Int × Int × Int × Int × Int × Unit) × (SL) × Unit) (s6_ : (SL) × (Int) × Unit) (r8_ : (Bool) × (Int) × (Bool) × Unit) (go10_ : ((SL) × Unit) → M (((SL) × (Int) × Unit) ⊕ (((SL) × Unit) ⊕ (Unit)))) (v18_ : Bool) : M (((SL) × (Int) × Unit) ⊕ (((SL) × Unit) ⊕ (Unit))) :=
 M.ite v18_
 (M.guard (inB r8_.2.1 x.2.1.2.1)
 (M.deref x.2.1.1 fun a19_ =>
 M.load (.cell (.int .u32)) 1 (a19_.add ((Int.toNat r8_.2.1) * 1)) fun (x20_ : Int) =>
 M.new (.cells (Row.ofList [(.int .u32 x20_)]) 73 false (0, 0) false) fun b21_ =>
 M.append 73 1 4 s6_.1.1 s6_.1.2.1 s6_.1.2.2 (.slice (some (Addr.mk b21_ 0 none)) 1 1) fun a22_ n23_ c24_ =>
 go10_ ((a22_, n23_, c24_), ())))
 (M.new (.cells (Row.ofList [(.int .u32 0)]) 73 false (0, 0) false) fun b25_ =>
 M.append 73 1 4 s6_.1.1 s6_.1.2.1 s6_.1.2.2 (.slice (some (Addr.mk b25_ 0 none)) 1 1) fun a26_ n27_ c28_ =>
 go10_ ((a26_, n27_, c28_), ()))
def f160c1 (X : XT) (L : LoopI) (x : (Int × Int × Int × Int × Int × Int × Int × Int × Int × Int × Int × Unit) × (SL) × Unit) (b0_ : Nat) (s6_ : (SL) × (Int) × Unit) (r8_ : (Bool) × (Int) × (Bool) × Unit) : M (((SL) × (Int) × Unit) ⊕ (((SL) × Unit) ⊕ (Unit))) :=
 M.join (fun (j9_ : (SL) × Unit) =>
 M.pure (.inl (j9_.1, (addW .i64 s6_.2.1 1), ()))) fun go10_ =>
 M.ite r8_.1
 (M.guard (inB r8_.2.1 6)
 (M.load (.cell (.int .u32)) 1 (((Addr.mk b0_ 0 none).add 4).add ((Int.toNat r8_.2.1) * 1)) fun (x12_ : Int) =>
 M.new (.cells (Row.ofList [(.int .u32 x12_)]) 73 false (0, 0) false) fun b13_ =>
 M.append 73 1 4 s6_.1.1 s6_.1.2.1 s6_.1.2.2 (.slice (some (Addr.mk b13_ 0 none)) 1 1) fun a14_ n15_ c16_ =>
 go10_ ((a14_, n15_, c16_), ())))
 (f160c0 X L x s6_ r8_ go10_ (ltB r8_.2.1 ((x.2.1.2.1 : Nat) : Int)))
def f160c2 (X : XT) (L : LoopI) (x : (Int × Int × Int × Int × Int × Int × Int × Int × Int × Int × Int × Unit) × (SL) × Unit) (b0_ : Nat) (x4_ : Int) : M (Value) :=
 M.callS (.one (.cell (.int .i64))) (X (.call 46 [(.int .i64 x4_)])) fun (r5_ : Int) =>
 M.bind (L (σ := (SL) × (Int) × Unit) (ρ := ((SL) × Unit) ⊕ (Unit)) (fun s6_ =>
 M.ite (ltB s6_.2.1 r5_)
 (M.callS (.tuple [(.cell .bool), (.cell (.int .i64)), (.cell .bool)]) (X (.call 187 [(.int .i64 s6_.2.1)])) fun (r8_ : (Bool) × (Int) × (Bool) × Unit) =>
 f160c1 X L x b0_ s6_ r8_)
 (M.pure (.inr (.inl (s6_.1, ()))))) ((none, 0, 0), 0, ())) <| M.sum (fun (j29_ : (SL) × Unit) =>
 M.pure (.tuple ⟨[(.slice j29_.1.1 j29_.1.2.1 j29_.1.2.2), (.int .i64 0)]⟩)) (fun _ => M.stuck)
def f160c3 (X : XT) (L : LoopI) (x : (Int × Int × Int × Int × Int × Int × Int × Int × Int × Int × Int × Unit) × (SL) × Unit) (b0_ : Nat) (x1_ : Int × Int × Int × Int × Int × Int × Int × Int × Int × Int × Int × Unit) : M (Value) :=
 M.callS (.one (.cell .bool)) (X (.call 45 [(.agg ⟨[(.int .i64 x1_.1), (.int .i64 x1_.2.1), (.int .i64 x1_.2.2.1), (.int .i64 x1_.2.2.2.1), (.int .u32 x1_.2.2.2.2.1), (.int .u32 x1_.2.2.2.2.2.1), (.int .u32 x1_.2.2.2.2.2.2.1), (.int .u32 x1_.2.2.2.2.2.2.2.1), (.int .u32 x1_.2.2.2.2.2.2.2.2.1), (.int .u32 x1_.2.2.2.2.2.2.2.2.2.1), (.int .u32 x1_.2.2.2.2.2.2.2.2.2.2.1)]⟩)])) fun (r2_ : Bool) =>
 M.ite (!r2_)
 (M.pure (.tuple ⟨[(.slice none 0 0), (.int .i64 1)]⟩))
 (M.load (.cell (.int .i64)) 1 ((Addr.mk b0_ 0 none).add 2) fun (x4_ : Int) =>
 f160c2 X L x b0_ x4_)
def f160c4 (X : XT) (L : LoopI) (x : (Int × Int × Int × Int × Int × Int × Int × Int × Int × Int × Int × Unit) × (SL) × Unit) : M (Value) :=
 M.new (.cells (Row.ofList [(.int .i64 x.1.1), (.int .i64 x.1.2.1), (.int .i64 x.1.2.2.1), (.int .i64 x.1.2.2.2.1), (.int .u32 x.1.2.2.2.2.1), (.int .u32 x.1.2.2.2.2.2.1), (.int .u32 x.1.2.2.2.2.2.2.1), (.int .u32 x.1.2.2.2.2.2.2.2.1), (.int .u32 x.1.2.2.2.2.2.2.2.2.1), (.int .u32 x.1.2.2.2.2.2.2.2.2.2.1), (.int .u32 x.1.2.2.2.2.2.2.2.2.2.2.1)]) 76 false (0, 0) false) fun b0_ =>
 M.load (.agg [(.int .i64), (.int .i64), (.int .i64), (.int .i64), (.int .u32), (.int .u32), (.int .u32), (.int .u32), (.int .u32), (.int .u32), (.int .u32)]) 11 (Addr.mk b0_ 0 none) fun (x1_ : Int × Int × Int × Int × Int × Int × Int × Int × Int × Int × Int × Unit) =>
 f160c3 X L x b0_ x1_
def f160 (X : XT) (L : LoopI) (x : (Int × Int × Int × Int × Int × Int × Int × Int × Int × Int × Int × Unit) × (SL) × Unit) : M Value :=
 f160c4 X L x

theorem e160 (X : XT) (L : LoopI) (x : (Int × Int × Int × Int × Int × Int × Int × Int × Int × Int × Int × Unit) × (SL) × Unit) : evBody CC { call := X, loop := L } 160 (shsInj [(.agg [(.int .i64), (.int .i64), (.int .i64), (.int .i64), (.int .u32), (.int .u32), (.int .u32), (.int .u32), (.int .u32), (.int .u32), (.int .u32)]), (.cell .slice)] x) = f160 X L x := by kernel_rfl

/-- cmp.isNaN[rune] -/
def f161 (X : XT) (L : LoopI) (x : (Int) × Unit) : M Value :=
 M.pure (.bool (!(eqB x.1 x.1)))

theorem e161 (X : XT) (L : LoopI) (x : (Int) × Unit) : evBody CC { call := X, loop := L } 161 (shsInj [(.cell (.int .i32))] x) = f161 X L x := by kernel_rfl

/-- hayrick/inode.numbers -/
def f164c0 (X : XT) (L : LoopI) (b10_ : Nat) (x11_ : Int × Int × Int × Int × Int × Int × Unit) (s12_ : (Int) × Unit) (v13_ : Bool) : M (((Int) × Unit) ⊕ ((Unit) ⊕ (Unit))) :=
 M.ite v13_
 (M.guard (inB s12_.1 6)
 (M.need ((([(.int .u32 x11_.1), (.int .u32 x11_.2.1), (.int .u32 x11_.2.2.1), (.int .u32 x11_.2.2.2.1), (.int .u32 x11_.2.2.2.2.1), (.int .u32 x11_.2.2.2.2.2.1)])[((Int.toNat s12_.1) * 1)]?).bind ((.cell (.int .u32)) : Sh).prj) fun (x15_ : Int) =>
 let v16_ : Int := addW .i64 4 s12_.1
 M.guard (inB v16_ 11)
 (M.store ((Addr.mk b10_ 0 none).add ((Int.toNat v16_) * 2)) [(.int .u32 x15_), (.int .i64 4)]
 (M.pure (.inl ((addW .i64 s12_.1 1), ()))))))
 (M.pure (.inr (.inl (()))))
def f164c1 (X : XT) (L : LoopI) (b1_ : Nat) : M (Value) :=
 M.load (.agg [(.int .u32), (.int .i64), (.int .u32), (.int .i64), (.int .u32), (.int .i64), (.int .u32), (.int .i64), (.int .u32), (.int .i64), (.int .u32), (.int .i64), (.int .u32), (.int .i64), (.int .u32), (.int .i64), (.int .u32), (.int .i64), (.int .u32), (.int .i64), (.int .u32), (.int .i64)]) 22 (Addr.mk b1_ 0 none) fun (x21_ : Int × Int × Int × Int × Int × Int × Int × Int × Int × Int × Int × Int × Int × Int × Int × Int × Int × Int × Int × Int × Int × Int × Unit) =>
 M.pure (.agg ⟨[(.int .u32 x21_.1), (.int .i64 x21_.2.1), (.int .u32 x21_.2.2.1), (.int .i64 x21_.2.2.2.1), (.int .u32 x21_.2.2.2.2.1), (.int .i64 x21_.2.2.2.2.2.1), (.int .u32 x21_.2.2.2.2.2.2.1), (.int .i64 x21_.2.2.2.2.2.2.2.1), (.int .u32 x21_.2.2.2.2.2.2.2.2.1), (.int .i64 x21_.2.2.2.2.2.2.2.2.2.1), (.int .u32 x21_.2.2.2.2.2.2.2.2.2.2.1), (.int .i64 x21_.2.2.2.2.2.2.2.2.2.2.2.1), (.int .u32 x21_.2.2.2.2.2.2.2.2.2.2.2.2.1), (.int .i64 x21_.2.2.2.2.2.2.2.2.2.2.2.2.2.1), (.int .u32 x21_.2.2.2.2.2.2.2.2.2.2.2.2.2.2.1), (.int .i64 x21_.2.2.2.2.2.2.2.2.2.2.2.2.2.2.2.1), (.int .u32 x21_.2.2.2.2.2.2.2.2.2.2.2.2.2.2.2.2.1), (.int .i64 x21_.2.2.2.2.2.2.2.2.2.2.2.2.2.2.2.2.2.1), (.int .u32 x21_.2.2.2.2.2.2.2.2.2.2.2.2.2.2.2.2.2.2.1), (.int .i64 x21_.2.2.2.2.2.2.2.2.2.2.2.2.2.2.2.2.2.2.2.1), (.int .u32 x21_.2.2.2.2.2.2.2.2.2.2.2.2.2.2.2.2.2.2.2.2.1), (.int .i64 x21_.2.2.2.2.2.2.2.2.2.2.2.2.2.2.2.2.2.2.2.2.2.1)]⟩)
def f164c2 (X : XT) (L : LoopI) (b1_ : Nat) (x20_ : Int × Int × Int × Int × Int × Int × Int × Int × Int × Int × Int × Int × Int × Int × Int × Int × Int × Int × Int × Int × Int × Int × Unit) : M (Value) :=
 M.store (Addr.mk b1_ 0 none) [(.int .u32 x20_.1), (.int .i64 x20_.2.1), (.int .u32 x20_.2.2.1), (.int .i64 x20_.2.2.2.1), (.int .u32 x20_.2.2.2.2.1), (.int .i64 x20_.2.2.2.2.2.1), (.int .u32 x20_.2.2.2.2.2.2.1), (.int .i64 x20_.2.2.2.2.2.2.2.1), (.int .u32 x20_.2.2.2.2.2.2.2.2.1), (.int .i64 x20_.2.2.2.2.2.2.2.2.2.1), (.int .u32 x20_.2.2.2.2.2.2.2.2.2.2.1), (.int .i64 x20_.2.2.2.2.2.2.2.2.2.2.2.1), (.int .u32 x20_.2.2.2.2.2.2.2.2.2.2.2.2.1), (.int .i64 x20_.2.2.2.2.2.2.2.2.2.2.2.2.2.1), (.int .u32 x20_.2.2.2.2.2.2.2.2.2.2.2.2.2.2.1), (.int .i64 x20_.2.2.2.2.2.2.2.2.2.2.2.2.2.2.2.1), (.int .u32 x20_.2.2.2.2.2.2.2.2.2.2.2.2.2.2.2.2.1), (.int .i64 x20_.2.2.2.2.2.2.2.2.2.2.2.2.2.2.2.2.2.1), (.int .u32 x20_.2.2.2.2.2.2.2.2.2.2.2.2.2.2.2.2.2.2.1), (.int .i64 x20_.2.2.2.2.2.2.2.2.2.2.2.2.2.2.2.2.2.2.2.1), (.int .u32 x20_.2.2.2.2.2.2.2.2.2.2.2.2.2.2.2.2.2.2.2.2.1), (.int .i64 x20_.2.2.2.2.2.2.2.2.2.2.2.2.2.2.2.2.2.2.2.2.2.1)]
 (f164c1 X L b1_)
def f164c3 (X : XT) (L : LoopI) (b1_ : Nat) (b10_ : Nat) (x19_ : Int) : M (Value) :=
 M.store ((Addr.mk b10_ 0 none).add ((Int.toNat 10) * 2)) [(.int .u32 x19_), (.int .i64 4)]
 (M.load (.agg [(.int .u32), (.int .i64), (.int .u32), (.int .i64), (.int .u32), (.int .i64), (.int .u32), (.int .i64), (.int .u32), (.int .i64), (.int .u32), (.int .i64), (.int .u32), (.int .i64), (.int .u32), (.int .i64), (.int .u32), (.int .i64), (.int .u32), (.int .i64), (.int .u32), (.int .i64)]) 22 (Addr.mk b10_ 0 none) fun (x20_ : Int × Int × Int × Int × Int × Int × Int × Int × Int × Int × Int × Int × Int × Int × Int × Int × Int × Int × Int × Int × Int × Int × Unit) =>
 f164c2 X L b1_ x20_)
def f164c4 (X : XT) (L : LoopI) (b0_ : Nat) (b1_ : Nat) (v3_ : Int) (v5_ : Int) (v7_ : Int) (v9_ : Int) (b10_ : Nat) : M (Value) :=
 M.store (Addr.mk b10_ 0 none) [(.int .u32 v3_), (.int .i64 2), (.int .u32 v5_), (.int .i64 1), (.int .u32 v7_), (.int .i64 1), (.int .u32 v9_), (.int .i64 2), (.int .u32 0), (.int .i64 0), (.int .u32 0), (.int .i64 0), (.int .u32 0), (.int .i64 0), (.int .u32 0), (.int .i64 0), (.int .u32 0), (.int .i64 0), (.int .u32 0), (.int .i64 0), (.int .u32 0), (.int .i64 0)]
 (M.load (.agg [(.int .u32), (.int .u32), (.int .u32), (.int .u32), (.int .u32), (.int .u32)]) 6 ((Addr.mk b0_ 0 none).add 4) fun (x11_ : Int × Int × Int × Int × Int × Int × Unit) =>
 M.bind (L (σ := (Int) × Unit) (ρ := (Unit) ⊕ (Unit)) (fun s12_ =>
 f164c0 X L b10_ x11_ s12_ (ltB s12_.1 6)) (0, ())) <| M.sum (fun (j18_ : Unit) =>
 M.load (.cell (.int .u32)) 1 ((Addr.mk b0_ 0 none).add 10) fun (x19_ : Int) =>
 M.guard (inB 10 11)
 (f164c3 X L b1_ b10_ x19_)) (fun _ => M.stuck))
def f164c5 (X : XT) (L : LoopI) (b0_ : Nat) : M (Value) :=
 M.new (.cells (Row.ofList (zc 269)) 269 false (0, 0) false) fun b1_ =>
 M.load (.cell (.int .i64)) 1 ((Addr.mk b0_ 0 none).add 0) fun (x2_ : Int) =>
 M.load (.cell (.int .i64)) 1 ((Addr.mk b0_ 0 none).add 1) fun (x4_ : Int) =>
 M.load (.cell (.int .i64)) 1 ((Addr.mk b0_ 0 none).add 3) fun (x6_ : Int) =>
 M.load (.cell (.int .i64)) 1 ((Addr.mk b0_ 0 none).add 2) fun (x8_ : Int) =>
 M.new (.cells (Row.ofList (zc 269)) 269 false (0, 0) false) fun b10_ =>
 f164c4 X L b0_ b1_ (wrapW .u32 x2_) (wrapW .u32 x4_) (wrapW .u32 x6_) (wrapW .u32 x8_) b10_
def f164 (X : XT) (L : LoopI) (x : (Int × Int × Int × Int × Int × Int × Int × Int × Int × Int × Int × Unit) × Unit) : M Value :=
 M.new (.cells (Row.ofList [(.int .i64 x.1.1), (.int .i64 x.1.2.1), (.int .i64 x.1.2.2.1), (.int .i64 x.1.2.2.2.1), (.int .u32 x.1.2.2.2.2.1), (.int .u32 x.1.2.2.2.2.2.1), (.int .u32 x.1.2.2.2.2.2.2.1), (.int .u32 x.1.2.2.2.2.2.2.2.1), (.int .u32 x.1.2.2.2.2.2.2.2.2.1), (.int .u32 x.1.2.2.2.2.2.2.2.2.2.1), (.int .u32 x.1.2.2.2.2.2.2.2.2.2.2.1)]) 76 false (0, 0) false) fun b0_ =>
 f164c5 X L b0_

theorem e164 (X : XT) (L : LoopI) (x : (Int × Int × Int × Int × Int × Int × Int × Int × Int × Int × Int × Unit) × Unit) : evBody CC { call := X, loop := L } 164 (shsInj [(.agg [(.int .i64), (.int .i64), (.int .i64), (.int .i64), (.int .u32), (.int .u32), (.int .u32), (.int .u32), (.int .u32), (.int .u32), (.int .u32)])] x) = f164 X L x := by kernel_rfl

/-- slices.choosePivotOrdered[int] -/
def f168c0 (X : XT) (L : LoopI) (x : (SL) × (Int) × (Int) × Unit) (b1_ : Nat) (v4_ : Int) (v7_ : Int) (v10_ : Int) (go18_ : ((Int) × (Int) × (Int) × Unit) → M (Value)) : M (Value) :=
 M.callS (.one (.cell (.int .i64))) (X (.call 195 [(.slice x.1.1 x.1.2.1 x.1.2.2), (.int .i64 v4_), (.pointer (some (Addr.mk b1_ 0 none)))])) fun (r21_ : Int) =>
 M.callS (.one (.cell (.int .i64))) (X (.call 195 [(.slice x.1.1 x.1.2.1 x.1.2.2), (.int .i64 v7_), (.pointer (some (Addr.mk b1_ 0 none)))])) fun (r22_ : Int) =>
 M.callS (.one (.cell (.int .i64))) (X (.call 195 [(.slice x.1.1 x.1.2.1 x.1.2.2), (.int .i64 v10_), (.pointer (some (Addr.mk b1_ 0 none)))])) fun (r23_ : Int) =>
 go18_ (r21_, r22_, r23_, ())
def f168c1 (X : XT) (L : LoopI) (x : (SL) × (Int) × (Int) × Unit) (v0_ : Int) (b1_ : Nat) (v4_ : Int) (v7_ : Int) (v10_ : Int) : M (Value) :=
 M.join (fun (j11_ : (Int) × Unit) =>
 M.load (.cell (.int .i64)) 1 (Addr.mk b1_ 0 none) fun (x13_ : Int) =>
 M.ite (eqB x13_ 0)
 (M.pure (.tuple ⟨[(.int .i64 j11_.1), (.int .i64 1)]⟩))
 (M.ite (eqB x13_ 12)
 (M.pure (.tuple ⟨[(.int .i64 j11_.1), (.int .i64 2)]⟩))
 (M.pure (.tuple ⟨[(.int .i64 j11_.1), (.int .i64 0)]⟩)))) fun go12_ =>
 M.ite (leB 8 v0_)
 (M.join (fun (j17_ : (Int) × (Int) × (Int) × Unit) =>
 M.callS (.one (.cell (.int .i64))) (X (.call 196 [(.slice x.1.1 x.1.2.1 x.1.2.2), (.int .i64 j17_.1), (.int .i64 j17_.2.1), (.int .i64 j17_.2.2.1), (.pointer (some (Addr.mk b1_ 0 none)))])) fun (r19_ : Int) =>
 go12_ (r19_, ())) fun go18_ =>
 M.ite (leB 50 v0_)
 (f168c0 X L x b1_ v4_ v7_ v10_ go18_)
 (go18_ (v4_, v7_, v10_, ())))
 (go12_ (v7_, ()))
def f168 (X : XT) (L : LoopI) (x : (SL) × (Int) × (Int) × Unit) : M Value :=
 let v0_ : Int := subW .i64 x.2.2.1 x.2.1
 M.new (.cells (Row.ofList [(.int .i64 0)]) 3 false (0, 0) false) fun b1_ =>
 M.guard (!(decide (4 = 0)))
 (M.guard (!(decide (4 = 0)))
 (M.guard (!(decide (4 = 0)))
 (f168c1 X L x v0_ b1_ (addW .i64 x.2.1 (mulW .i64 (IntKind.i64.wrap ((v0_ : Int).tdiv 4)) 1)) (addW .i64 x.2.1 (mulW .i64 (IntKind.i64.wrap ((v0_ : Int).tdiv 4)) 2)) (addW .i64 x.2.1 (mulW .i64 (IntKind.i64.wrap ((v0_ : Int).tdiv 4)) 3)))))

theorem e168 (X : XT) (L : LoopI) (x : (SL) × (Int) × (Int) × Unit) : evBody CC { call := X, loop := L } 168 (shsInj [(.cell .slice), (.cell (.int .i64)), (.cell (.int .i64))] x) = f168 X L x := by kernel_rfl

/-- slices.partialInsertionSortOrdered[int] -/
def f170c0 (X : XT) (L : LoopI) (x : (SL) × (Int) × (Int) × Unit) (s6_ : (Int) × Unit) : M (((Int) × Unit) ⊕ (((Int) × Unit) ⊕ (Unit))) :=
 M.join (fun (j7_ : (Bool) × Unit) =>
 M.ite j7_.1
 (M.pure (.inl ((addW .i64 s6_.1 1), ())))
 (M.pure (.inr (.inl (s6_.1, ()))))) fun go8_ =>
 M.ite (ltB s6_.1 x.2.2.1)
 (M.guard (inB s6_.1 x.1.2.1)
 (M.deref x.1.1 fun a11_ =>
 M.load (.cell (.int .i64)) 1 (a11_.add ((Int.toNat s6_.1) * 1)) fun (x12_ : Int) =>
 let v13_ : Int := subW .i64 s6_.1 1
 M.guard (inB v13_ x.1.2.1)
 (M.deref x.1.1 fun a14_ =>
 M.load (.cell (.int .i64)) 1 (a14_.add ((Int.toNat v13_) * 1)) fun (x15_ : Int) =>
 M.callS (.one (.cell .bool)) (X (.call 171 [(.int .i64 x12_), (.int .i64 x15_)])) fun (r16_ : Bool) =>
 go8_ ((!r16_), ()))))
 (go8_ (false, ()))
def f170c1 (X : XT) (L : LoopI) (x : (SL) × (Int) × (Int) × Unit) (s35_ : (Int) × Unit) (v44_ : Int) (v45_ : Int) (a46_ : Addr) : M (((Int) × Unit) ⊕ ((Unit) ⊕ (Unit))) :=
 M.load (.cell (.int .i64)) 1 (a46_.add ((Int.toNat v45_) * 1)) fun (x47_ : Int) =>
 M.guard (inB s35_.1 x.1.2.1)
 (M.deref x.1.1 fun a48_ =>
 M.load (.cell (.int .i64)) 1 (a48_.add ((Int.toNat s35_.1) * 1)) fun (x49_ : Int) =>
 M.guard (inB s35_.1 x.1.2.1)
 (M.deref x.1.1 fun a50_ =>
 M.store (a50_.add ((Int.toNat s35_.1) * 1)) [(.int .i64 x47_)]
 (M.guard (inB v44_ x.1.2.1)
 (M.deref x.1.1 fun a51_ =>
 M.store (a51_.add ((Int.toNat v44_) * 1)) [(.int .i64 x49_)]
 (M.pure (.inl ((addW .i64 s35_.1 1), ())))))))
def f170c2 (X : XT) (L : LoopI) (x : (SL) × (Int) × (Int) × Unit) (s35_ : (Int) × Unit) (a37_ : Addr) : M (((Int) × Unit) ⊕ ((Unit) ⊕ (Unit))) :=
 M.load (.cell (.int .i64)) 1 (a37_.add ((Int.toNat s35_.1) * 1)) fun (x38_ : Int) =>
 let v39_ : Int := subW .i64 s35_.1 1
 M.guard (inB v39_ x.1.2.1)
 (M.deref x.1.1 fun a40_ =>
 M.load (.cell (.int .i64)) 1 (a40_.add ((Int.toNat v39_) * 1)) fun (x41_ : Int) =>
 M.callS (.one (.cell .bool)) (X (.call 171 [(.int .i64 x38_), (.int .i64 x41_)])) fun (r42_ : Bool) =>
 M.ite (!r42_)
 (M.pure (.inr (.inl (()))))
 (let v45_ : Int := subW .i64 s35_.1 1
 M.guard (inB v45_ x.1.2.1)
 (M.deref x.1.1 fun a46_ =>
 f170c1 X L x s35_ (subW .i64 s35_.1 1) v45_ a46_)))
def f170c3 (X : XT) (L : LoopI) (x : (SL) × (Int) × (Int) × Unit) (s57_ : (Int) × Unit) (v66_ : Int) (v67_ : Int) (a68_ : Addr) : M (((Int) × Unit) ⊕ ((Unit) ⊕ (Unit))) :=
 M.load (.cell (.int .i64)) 1 (a68_.add ((Int.toNat v67_) * 1)) fun (x69_ : Int) =>
 M.guard (inB s57_.1 x.1.2.1)
 (M.deref x.1.1 fun a70_ =>
 M.load (.cell (.int .i64)) 1 (a70_.add ((Int.toNat s57_.1) * 1)) fun (x71_ : Int) =>
 M.guard (inB s57_.1 x.1.2.1)
 (M.deref x.1.1 fun a72_ =>
 M.store (a72_.add ((Int.toNat s57_.1) * 1)) [(.int .i64 x69_)]
 (M.guard (inB v66_ x.1.2.1)
 (M.deref x.1.1 fun a73_ =>
 M.store (a73_.add ((Int.toNat v66_) * 1)) [(.int .i64 x71_)]
 (M.pure (.inl ((subW .i64 s57_.1 1), ())))))))
def f170c4 (X : XT) (L : LoopI) (x : (SL) × (Int) × (Int) × Unit) (s57_ : (Int) × Unit) (a59_ : Addr) : M (((Int) × Unit) ⊕ ((Unit) ⊕ (Unit))) :=
 M.load (.cell (.int .i64)) 1 (a59_.add ((Int.toNat s57_.1) * 1)) fun (x60_ : Int) =>
 let v61_ : Int := subW .i64 s57_.1 1
 M.guard (inB v61_ x.1.2.1)
 (M.deref x.1.1 fun a62_ =>
 M.load (.cell (.int .i64)) 1 (a62_.add ((Int.toNat v61_) * 1)) fun (x63_ : Int) =>
 M.callS (.one (.cell .bool)) (X (.call 171 [(.int .i64 x60_), (.int .i64 x63_)])) fun (r64_ : Bool) =>
 M.ite (!r64_)
 (M.pure (.inr (.inl (()))))
 (let v67_ : Int := subW .i64 s57_.1 1
 M.guard (inB v67_ x.1.2.1)
 (M.deref x.1.1 fun a68_ =>
 f170c3 X L x s57_ (subW .i64 s57_.1 1) v67_ a68_)))
def f170c5 (X : XT) (L : LoopI) (x : (SL) × (Int) × (Int) × Unit) (go4_ : ((Int) × Unit) → M (((Int) × (Int) × Unit) ⊕ ((Unit) ⊕ (((Bool) × Unit) ⊕ (Unit))))) (j18_ : (Int) × Unit) : M (((Int) × (Int) × Unit) ⊕ ((Unit) ⊕ (((Bool) × Unit) ⊕ (Unit)))) :=
 M.join (fun (j30_ : Unit) =>
 M.ite (leB 2 (subW .i64 x.2.2.1 j18_.1))
 (M.bind (L (σ := (Int) × Unit) (ρ := (Unit) ⊕ (Unit)) (fun s35_ =>
 M.ite (ltB s35_.1 x.2.2.1)
 (M.guard (inB s35_.1 x.1.2.1)
 (M.deref x.1.1 fun a37_ =>
 f170c2 X L x s35_ a37_))
 (M.pure (.inr (.inl (()))))) ((addW .i64 j18_.1 1), ())) <| M.sum (fun (j53_ : Unit) =>
 go4_ (j18_.1, ())) (fun _ => M.stuck))
 (go4_ (j18_.1, ()))) fun go31_ =>
 M.ite (leB 2 (subW .i64 j18_.1 x.2.1))
 (M.bind (L (σ := (Int) × Unit) (ρ := (Unit) ⊕ (Unit)) (fun s57_ =>
 M.ite (leB 1 s57_.1)
 (M.guard (inB s57_.1 x.1.2.1)
 (M.deref x.1.1 fun a59_ =>
 f170c4 X L x s57_ a59_))
 (M.pure (.inr (.inl (()))))) ((subW .i64 j18_.1 1), ())) <| M.sum (fun (j75_ : Unit) =>
 go31_ (())) (fun _ => M.stuck))
 (go31_ (()))
def f170c6 (X : XT) (L : LoopI) (x : (SL) × (Int) × (Int) × Unit) (go4_ : ((Int) × Unit) → M (((Int) × (Int) × Unit) ⊕ ((Unit) ⊕ (((Bool) × Unit) ⊕ (Unit))))) (j18_ : (Int) × Unit) (v22_ : Int) (v23_ : Int) : M (((Int) × (Int) × Unit) ⊕ ((Unit) ⊕ (((Bool) × Unit) ⊕ (Unit)))) :=
 M.guard (inB v23_ x.1.2.1)
 (M.deref x.1.1 fun a24_ =>
 M.load (.cell (.int .i64)) 1 (a24_.add ((Int.toNat v23_) * 1)) fun (x25_ : Int) =>
 M.guard (inB j18_.1 x.1.2.1)
 (M.deref x.1.1 fun a26_ =>
 M.load (.cell (.int .i64)) 1 (a26_.add ((Int.toNat j18_.1) * 1)) fun (x27_ : Int) =>
 M.guard (inB j18_.1 x.1.2.1)
 (M.deref x.1.1 fun a28_ =>
 M.store (a28_.add ((Int.toNat j18_.1) * 1)) [(.int .i64 x25_)]
 (M.guard (inB v22_ x.1.2.1)
 (M.deref x.1.1 fun a29_ =>
 M.store (a29_.add ((Int.toNat v22_) * 1)) [(.int .i64 x27_)]
 (f170c5 X L x go4_ j18_))))))
def f170c7 (X : XT) (L : LoopI) (x : (SL) × (Int) × (Int) × Unit) (s1_ : (Int) × (Int) × Unit) (v2_ : Bool) : M (((Int) × (Int) × Unit) ⊕ ((Unit) ⊕ (((Bool) × Unit) ⊕ (Unit)))) :=
 M.ite v2_
 (M.join (fun (j3_ : (Int) × Unit) =>
 M.pure (.inl (j3_.1, (addW .i64 s1_.2.1 1), ()))) fun go4_ =>
 M.bind (L (σ := (Int) × Unit) (ρ := ((Int) × Unit) ⊕ (Unit)) (fun s6_ =>
 f170c0 X L x s6_) (s1_.1, ())) <| M.sum (fun (j18_ : (Int) × Unit) =>
 M.ite (eqB j18_.1 x.2.2.1)
 (M.pure (.inr (.inr (.inl (true, ())))))
 (M.ite (ltB (subW .i64 x.2.2.1 x.2.1) 50)
 (M.pure (.inr (.inr (.inl (false, ())))))
 (f170c6 X L x go4_ j18_ (subW .i64 j18_.1 1) (subW .i64 j18_.1 1)))) (fun _ => M.stuck))
 (M.pure (.inr (.inl (()))))
def f170 (X : XT) (L : LoopI) (x : (SL) × (Int) × (Int) × Unit) : M Value :=
 M.bind (L (σ := (Int) × (Int) × Unit) (ρ := (Unit) ⊕ (((Bool) × Unit) ⊕ (Unit))) (fun s1_ =>
 f170c7 X L x s1_ (ltB s1_.2.1 5)) ((addW .i64 x.2.1 1), 0, ())) <| M.sum (fun (j76_ : Unit) =>
 M.pure (.bool false)) (M.sum (fun (j77_ : (Bool) × Unit) =>
 M.pure (.bool j77_.1)) (fun _ => M.stuck))

theorem e170 (X : XT) (L : LoopI) (x : (SL) × (Int) × (Int) × Unit) : evBody CC { call := X, loop := L } 170 (shsInj [(.cell .slice), (.cell (.int .i64)), (.cell (.int .i64))] x) = f170 X L x := by kernel_rfl

/-- cmp.Less[int] -/
def f171 (X : XT) (L : LoopI) (x : (Int) × (Int) × Unit) : M Value :=
 M.join (fun (j0_ : (Bool) × Unit) =>
 M.pure (.bool j0_.1)) fun go1_ =>
 M.callS (.one (.cell .bool)) (X (.call 197 [(.int .i64 x.1)])) fun (r2_ : Bool) =>
 M.ite r2_
 (M.callS (.one (.cell .bool)) (X (.call 197 [(.int .i64 x.2.1)])) fun (r3_ : Bool) =>
 M.ite (!r3_)
 (go1_ (true, ()))
 (go1_ ((ltB x.1 x.2.1), ())))
 (go1_ ((ltB x.1 x.2.1), ()))

theorem e171 (X : XT) (L : LoopI) (x : (Int) × (Int) × Unit) : evBody CC { call := X, loop := L } 171 (shsInj [(.cell (.int .i64)), (.cell (.int .i64))] x) = f171 X L x := by kernel_rfl

/-- math/bits.Len64 -/
def f175c0 (X : XT) (L : LoopI) (j0_ : (Int) × (Int) × Unit) : M (Value) :=
 M.join (fun (j2_ : (Int) × (Int) × Unit) =>
 M.join (fun (j4_ : (Int) × (Int) × Unit) =>
 let v6_ : Int := wrapW .u8 j4_.1
 M.guard (inB v6_ st16.size)
 (M.pure (.int .i64 (addW .i64 j4_.2.1 (wrapW .i64 (byteAt st16 v6_)))))) fun go5_ =>
 M.ite (leB 256 j2_.1)
 (M.guard (decide (0 ≤ 8))
 (go5_ ((((j2_.1 : Int)).fdiv (2 ^ (min (Int.toNat 8) IntKind.u64.bits))), (addW .i64 j2_.2.1 8), ())))
 (go5_ (j2_.1, j2_.2.1, ()))) fun go3_ =>
 M.ite (leB 65536 j0_.1)
 (M.guard (decide (0 ≤ 16))
 (go3_ ((((j0_.1 : Int)).fdiv (2 ^ (min (Int.toNat 16) IntKind.u64.bits))), (addW .i64 j0_.2.1 16), ())))
 (go3_ (j0_.1, j0_.2.1, ()))
def f175 (X : XT) (L : LoopI) (x : (Int) × Unit) : M Value :=
 M.join (fun (j0_ : (Int) × (Int) × Unit) =>
 f175c0 X L j0_) fun go1_ =>
 M.ite (leB 4294967296 x.1)
 (M.guard (decide (0 ≤ 32))
 (go1_ ((((x.1 : Int)).fdiv (2 ^ (min (Int.toNat 32) IntKind.u64.bits))), 32, ())))
 (go1_ (x.1, 0, ()))

theorem e175 (X : XT) (L : LoopI) (x : (Int) × Unit) : evBody CC { call := X, loop := L } 175 (shsInj [(.cell (.int .u64))] x) = f175 X L x := by kernel_rfl

/-- hayrick/points.At -/
def f187 (X : XT) (L : LoopI) (x : (Int) × Unit) : M Value :=
 M.join (fun (j0_ : (Bool) × Unit) =>
 M.ite j0_.1
 (M.pure (.tuple ⟨[(.bool false), (.int .i64 0), (.bool false)]⟩))
 (M.ite (ltB x.1 6)
 (M.pure (.tuple ⟨[(.bool true), (.int .i64 x.1), (.bool true)]⟩))
 (M.pure (.tuple ⟨[(.bool false), (.int .i64 (subW .i64 x.1 6)), (.bool true)]⟩)))) fun go1_ =>
 M.ite (ltB x.1 0)
 (go1_ (true, ()))
 (go1_ ((leB 34 x.1), ()))

theorem e187 (X : XT) (L : LoopI) (x : (Int) × Unit) : evBody CC { call := X, loop := L } 187 (shsInj [(.cell (.int .i64))] x) = f187 X L x := by kernel_rfl

/-- slices.medianAdjacentOrdered[int] -/
def f195 (X : XT) (L : LoopI) (x : (SL) × (Int) × (PA) × Unit) : M Value :=
 M.callS (.one (.cell (.int .i64))) (X (.call 196 [(.slice x.1.1 x.1.2.1 x.1.2.2), (.int .i64 (subW .i64 x.2.1 1)), (.int .i64 x.2.1), (.int .i64 (addW .i64 x.2.1 1)), (.pointer x.2.2.1)])) fun (r2_ : Int) =>
 M.pure (.int .i64 r2_)

theorem e195 (X : XT) (L : LoopI) (x : (SL) × (Int) × (PA) × Unit) : evBody CC { call := X, loop := L } 195 (shsInj [(.cell .slice), (.cell (.int .i64)), (.cell .ptr)] x) = f195 X L x := by kernel_rfl

/-- slices.medianOrdered[int] -/
def f196c0 (X : XT) (L : LoopI) (x : (SL) × (Int) × (Int) × (Int) × (PA) × Unit) : M (Value) :=
 M.callS (.tuple [(.cell (.int .i64)), (.cell (.int .i64))]) (X (.call 215 [(.slice x.1.1 x.1.2.1 x.1.2.2), (.int .i64 x.2.1), (.int .i64 x.2.2.1), (.pointer x.2.2.2.2.1)])) fun (r0_ : (Int) × (Int) × Unit) =>
 M.callS (.tuple [(.cell (.int .i64)), (.cell (.int .i64))]) (X (.call 215 [(.slice x.1.1 x.1.2.1 x.1.2.2), (.int .i64 r0_.2.1), (.int .i64 x.2.2.2.1), (.pointer x.2.2.2.2.1)])) fun (r1_ : (Int) × (Int) × Unit) =>
 M.callS (.tuple [(.cell (.int .i64)), (.cell (.int .i64))]) (X (.call 215 [(.slice x.1.1 x.1.2.1 x.1.2.2), (.int .i64 r0_.1), (.int .i64 r1_.1), (.pointer x.2.2.2.2.1)])) fun (r2_ : (Int) × (Int) × Unit) =>
 M.pure (.int .i64 r2_.2.1)
def f196 (X : XT) (L : LoopI) (x : (SL) × (Int) × (Int) × (Int) × (PA) × Unit) : M Value :=
 f196c0 X L x

theorem e196 (X : XT) (L : LoopI) (x : (SL) × (Int) × (Int) × (Int) × (PA) × Unit) : evBody CC { call := X, loop := L } 196 (shsInj [(.cell .slice), (.cell (.int .i64)), (.cell (.int .i64)), (.cell (.int .i64)), (.cell .ptr)] x) = f196 X L x := by kernel_rfl

/-- cmp.isNaN[int] -/
def f197 (X : XT) (L : LoopI) (x : (Int) × Unit) : M Value :=
 M.pure (.bool (!(eqB x.1 x.1)))

theorem e197 (X : XT) (L : LoopI) (x : (Int) × Unit) : evBody CC { call := X, loop := L } 197 (shsInj [(.cell (.int .i64))] x) = f197 X L x := by kernel_rfl

/-- slices.order2Ordered[int] -/
def f215c0 (X : XT) (L : LoopI) (x : (SL) × (Int) × (Int) × (PA) × Unit) (x1_ : Int) : M (Value) :=
 M.guard (inB x.2.1 x.1.2.1)
 (M.deref x.1.1 fun a2_ =>
 M.load (.cell (.int .i64)) 1 (a2_.add ((Int.toNat x.2.1) * 1)) fun (x3_ : Int) =>
 M.callS (.one (.cell .bool)) (X (.call 171 [(.int .i64 x1_), (.int .i64 x3_)])) fun (r4_ : Bool) =>
 M.ite r4_
 (M.deref x.2.2.2.1 fun a5_ =>
 M.load (.cell (.int .i64)) 1 a5_ fun (x6_ : Int) =>
 M.deref x.2.2.2.1 fun a8_ =>
 M.store a8_ [(.int .i64 (addW .i64 x6_ 1))]
 (M.pure (.tuple ⟨[(.int .i64 x.2.2.1), (.int .i64 x.2.1)]⟩)))
 (M.pure (.tuple ⟨[(.int .i64 x.2.1), (.int .i64 x.2.2.1)]⟩)))
def f215 (X : XT) (L : LoopI) (x : (SL) × (Int) × (Int) × (PA) × Unit) : M Value :=
 M.guard (inB x.2.2.1 x.1.2.1)
 (M.deref x.1.1 fun a0_ =>
 M.load (.cell (.int .i64)) 1 (a0_.add ((Int.toNat x.2.2.1) * 1)) fun (x1_ : Int) =>
 f215c0 X L x x1_)

theorem e215 (X : XT) (L : LoopI) (x : (SL) × (Int) × (Int) × (PA) × Unit) : evBody CC { call := X, loop := L } 215 (shsInj [(.cell .slice), (.cell (.int .i64)), (.cell (.int .i64)), (.cell .ptr)] x) = f215 X L x := by kernel_rfl

/-- hayrick/field.Mul -/
def f217c0 (X : XT) (L : LoopI) (x : (Int) × (Int) × Unit) : M (Value) :=
 M.bind (L (σ := (Int) × (Int) × (Int) × Unit) (ρ := ((Int) × Unit) ⊕ (Unit)) (fun s0_ =>
 M.ite (ltB 0 s0_.2.1)
 (M.join (fun (j2_ : (Int) × Unit) =>
 M.callS (.one (.cell (.int .u8))) (X (.call 228 [(.int .u8 s0_.1)])) fun (r4_ : Int) =>
 M.guard (decide (0 ≤ 1))
 (M.pure (.inl (r4_, (((s0_.2.1 : Int)).fdiv (2 ^ (min (Int.toNat 1) IntKind.u8.bits))), j2_.1, ())))) fun go3_ =>
 M.ite (eqB (andW .u8 s0_.2.1 1) 1)
 (go3_ ((xorW .u8 s0_.2.2.1 s0_.1), ()))
 (go3_ (s0_.2.2.1, ())))
 (M.pure (.inr (.inl (s0_.2.2.1, ()))))) (x.1, x.2.1, 0, ())) <| M.sum (fun (j9_ : (Int) × Unit) =>
 M.pure (.int .u8 j9_.1)) (fun _ => M.stuck)
def f217 (X : XT) (L : LoopI) (x : (Int) × (Int) × Unit) : M Value :=
 f217c0 X L x

theorem e217 (X : XT) (L : LoopI) (x : (Int) × (Int) × Unit) : evBody CC { call := X, loop := L } 217 (shsInj [(.cell (.int .u8)), (.cell (.int .u8))] x) = f217 X L x := by kernel_rfl

/-- hayrick/field.Inv -/
def f218 (X : XT) (L : LoopI) (x : (Int) × Unit) : M Value :=
 M.callS (.tuple [(.cell (.int .i64)), (.cell (.int .i64))]) (X (.call 229 [(.int .u8 x.1)])) fun (r0_ : (Int) × (Int) × Unit) =>
 M.ite (!(eqB r0_.2.1 0))
 (M.pure (.tuple ⟨[(.int .u8 0), (.int .i64 r0_.2.1)]⟩))
 (M.callS (.one (.cell (.int .u8))) (X (.call 230 [(.int .i64 (IntKind.i64.wrap (0 - r0_.1)))])) fun (r3_ : Int) =>
 M.pure (.tuple ⟨[(.int .u8 r3_), (.int .i64 0)]⟩))

theorem e218 (X : XT) (L : LoopI) (x : (Int) × Unit) : evBody CC { call := X, loop := L } 218 (shsInj [(.cell (.int .u8))] x) = f218 X L x := by kernel_rfl

/-- hayrick/field.twice -/
def f228 (X : XT) (L : LoopI) (x : (Int) × Unit) : M Value :=
 M.guard (decide (0 ≤ 1))
 (let v0_ : Int := IntKind.u8.wrap (x.1 * 2 ^ (min (Int.toNat 1) IntKind.u8.bits))
 M.join (fun (j1_ : (Int) × Unit) =>
 M.pure (.int .u8 j1_.1)) fun go2_ =>
 M.ite (leB 128 x.1)
 (go2_ ((xorW .u8 v0_ 29), ()))
 (go2_ (v0_, ())))

theorem e228 (X : XT) (L : LoopI) (x : (Int) × Unit) : evBody CC { call := X, loop := L } 228 (shsInj [(.cell (.int .u8))] x) = f228 X L x := by kernel_rfl

/-- hayrick/field.Log -/
def f229c0 (X : XT) (L : LoopI) (x : (Int) × Unit) : M (Value) :=
 M.callS (.tuple [.raw, .raw]) (X (.call 233 [])) fun (r1_ : (List Value) × (List Value) × Unit) =>
 M.new (.cells (Row.ofList (zc 344)) 344 false (0, 0) false) fun b2_ =>
 M.new (.cells (Row.ofList (zc 345)) 345 false (0, 0) false) fun b3_ =>
 cond (Nat.beq r1_.1.length 255) (M.store (Addr.mk b2_ 0 none) r1_.1
 (cond (Nat.beq r1_.2.1.length 256) (M.store (Addr.mk b3_ 0 none) r1_.2.1
 (M.guard (inB x.1 256)
 (M.load (.cell (.int .i64)) 1 ((Addr.mk b3_ 0 none).add ((Int.toNat x.1) * 1)) fun (x4_ : Int) =>
 M.pure (.tuple ⟨[(.int .i64 x4_), (.int .i64 0)]⟩)))) M.stuck)) M.stuck
def f229 (X : XT) (L : LoopI) (x : (Int) × Unit) : M Value :=
 M.ite (eqB x.1 0)
 (M.pure (.tuple ⟨[(.int .i64 0), (.int .i64 1)]⟩))
 (f229c0 X L x)

theorem e229 (X : XT) (L : LoopI) (x : (Int) × Unit) : evBody CC { call := X, loop := L } 229 (shsInj [(.cell (.int .u8))] x) = f229 X L x := by kernel_rfl

/-- hayrick/field.Exp -/
def f230c0 (X : XT) (L : LoopI) (x : (Int) × Unit) (r0_ : (List Value) × (List Value) × Unit) : M (Value) :=
 M.new (.cells (Row.ofList (zc 344)) 344 false (0, 0) false) fun b1_ =>
 M.new (.cells (Row.ofList (zc 345)) 345 false (0, 0) false) fun b2_ =>
 cond (Nat.beq r0_.1.length 255) (M.store (Addr.mk b1_ 0 none) r0_.1
 (cond (Nat.beq r0_.2.1.length 256) (M.store (Addr.mk b2_ 0 none) r0_.2.1
 (M.callS (.one (.cell (.int .i64))) (X (.call 234 [(.int .i64 x.1)])) fun (r3_ : Int) =>
 M.guard (inB r3_ 255)
 (M.load (.cell (.int .u8)) 1 ((Addr.mk b1_ 0 none).add ((Int.toNat r3_) * 1)) fun (x4_ : Int) =>
 M.pure (.int .u8 x4_)))) M.stuck)) M.stuck
def f230 (X : XT) (L : LoopI) (x : (Int) × Unit) : M Value :=
 M.callS (.tuple [.raw, .raw]) (X (.call 233 [])) fun (r0_ : (List Value) × (List Value) × Unit) =>
 f230c0 X L x r0_

theorem e230 (X : XT) (L : LoopI) (x : (Int) × Unit) : evBody CC { call := X, loop := L } 230 (shsInj [(.cell (.int .i64))] x) = f230 X L x := by kernel_rfl

/-- hayrick/field.tables -/
def f233c0 (X : XT) (L : LoopI) (b0_ : Nat) (b1_ : Nat) : M (Value) :=
 M.load .raw 255 (Addr.mk b0_ 0 none) fun (x7_ : List Value) =>
 M.load .raw 256 (Addr.mk b1_ 0 none) fun (x8_ : List Value) =>
 cond (Nat.beq x7_.length 255) (M.store (Addr.mk b0_ 0 none) x7_
 (M.load .raw 256 (Addr.mk b1_ 0 none) fun (x9_ : List Value) => cond (veqv (.agg ⟨x9_⟩) (.agg ⟨x8_⟩)) (cond (Nat.beq x8_.length 256) (M.store (Addr.mk b1_ 0 none) x8_
 (M.load .raw 255 (Addr.mk b0_ 0 none) fun (x10_ : List Value) =>
 M.load .raw 256 (Addr.mk b1_ 0 none) fun (x11_ : List Value) =>
 M.pure (.tuple ⟨[(.agg ⟨x10_⟩), (.agg ⟨x11_⟩)]⟩))) M.stuck) M.stuck)) M.stuck
def f233c1 (X : XT) (L : LoopI) (b0_ : Nat) (b1_ : Nat) : M (Value) :=
 M.bind (L (σ := (Int) × (Int) × Unit) (ρ := (Unit) ⊕ (Unit)) (fun s2_ =>
 M.ite (ltB s2_.2.1 255)
 (M.guard (inB s2_.2.1 255)
 (M.store ((Addr.mk b0_ 0 none).add ((Int.toNat s2_.2.1) * 1)) [(.int .u8 s2_.1)]
 (M.guard (inB s2_.1 256)
 (M.store ((Addr.mk b1_ 0 none).add ((Int.toNat s2_.1) * 1)) [(.int .i64 s2_.2.1)]
 (M.callS (.one (.cell (.int .u8))) (X (.call 228 [(.int .u8 s2_.1)])) fun (r4_ : Int) =>
 M.pure (.inl (r4_, (addW .i64 s2_.2.1 1), ())))))))
 (M.pure (.inr (.inl (()))))) (1, 0, ())) <| M.sum (fun (j6_ : Unit) =>
 f233c0 X L b0_ b1_) (fun _ => M.stuck)
def f233 (X : XT) (L : LoopI) (x : Unit) : M Value :=
 M.new (.cells (Row.ofList (zc 344)) 344 false (0, 0) false) fun b0_ =>
 M.new (.cells (Row.ofList (zc 345)) 345 false (0, 0) false) fun b1_ =>
 f233c1 X L b0_ b1_

theorem e233 (X : XT) (L : LoopI) (x : Unit) : evBody CC { call := X, loop := L } 233 (shsInj [] x) = f233 X L x := by kernel_rfl

/-- hayrick/field.around -/
def f234 (X : XT) (L : LoopI) (x : (Int) × Unit) : M Value :=
 M.guard (!(decide (255 = 0)))
 (M.guard (!(decide (255 = 0)))
 (M.pure (.int .i64 (((addW .i64 ((x.1 : Int).tmod 255) 255) : Int).tmod 255))))

theorem e234 (X : XT) (L : LoopI) (x : (Int) × Unit) : evBody CC { call := X, loop := L } 234 (shsInj [(.cell (.int .i64))] x) = f234 X L x := by kernel_rfl

/-- (hayrick/store.data).block -/
def f256 (X : XT) (L : LoopI) (x : (Int × Int × SL × Unit) × Unit) : M Value :=
 M.new (.cells (Row.ofList [(.int .i64 x.1.1), (.int .i64 x.1.2.1), (.slice x.1.2.2.1.1 x.1.2.2.1.2.1 x.1.2.2.1.2.2)]) 136 false (0, 0) false) fun b0_ =>
 M.load (.cell .slice) 1 ((Addr.mk b0_ 0 none).add 2) fun (x1_ : SL) =>
 M.pure (.tuple ⟨[(.slice x1_.1 x1_.2.1 x1_.2.2), (.int .i64 0)]⟩)

theorem e256 (X : XT) (L : LoopI) (x : (Int × Int × SL × Unit) × Unit) : evBody CC { call := X, loop := L } 256 (shsInj [(.agg [(.int .i64), (.int .i64), .slice])] x) = f256 X L x := by kernel_rfl

/-- (hayrick/store.data).record -/
def f257c0 (X : XT) (L : LoopI) (b0_ : Nat) : M (Value) :=
 M.new (.cells (Row.ofList [(.int .i64 0), (.bool false), (.int .i64 0), (.int .i64 0)]) 143 false (0, 0) false) fun b1_ =>
 M.load (.cell (.int .i64)) 1 ((Addr.mk b0_ 0 none).add 0) fun (x2_ : Int) =>
 M.load (.cell (.int .i64)) 1 ((Addr.mk b0_ 0 none).add 1) fun (x3_ : Int) =>
 M.store (Addr.mk b1_ 0 none) [(.int .i64 1), (.bool false), (.int .i64 x2_), (.int .i64 x3_)]
 (M.load (.agg [(.int .i64), .bool, (.int .i64), (.int .i64)]) 4 (Addr.mk b1_ 0 none) fun (x4_ : Int × Bool × Int × Int × Unit) =>
 M.pure (.agg ⟨[(.int .i64 x4_.1), (.bool x4_.2.1), (.int .i64 x4_.2.2.1), (.int .i64 x4_.2.2.2.1)]⟩))
def f257 (X : XT) (L : LoopI) (x : (Int × Int × SL × Unit) × Unit) : M Value :=
 M.new (.cells (Row.ofList [(.int .i64 x.1.1), (.int .i64 x.1.2.1), (.slice x.1.2.2.1.1 x.1.2.2.1.2.1 x.1.2.2.1.2.2)]) 136 false (0, 0) false) fun b0_ =>
 f257c0 X L b0_

theorem e257 (X : XT) (L : LoopI) (x : (Int × Int × SL × Unit) × Unit) : evBody CC { call := X, loop := L } 257 (shsInj [(.agg [(.int .i64), (.int .i64), .slice])] x) = f257 X L x := by kernel_rfl

/-- (hayrick/store.node).block -/
def f262c0 (X : XT) (L : LoopI) (x1_ : Int × Int × Int × Int × Int × Int × Int × Int × Int × Int × Int × Unit) : M (Value) :=
 M.callS (.tuple [(.cell .slice), (.cell (.int .i64))]) (X (.call 146 [(.agg ⟨[(.int .i64 x1_.1), (.int .i64 x1_.2.1), (.int .i64 x1_.2.2.1), (.int .i64 x1_.2.2.2.1), (.int .u32 x1_.2.2.2.2.1), (.int .u32 x1_.2.2.2.2.2.1), (.int .u32 x1_.2.2.2.2.2.2.1), (.int .u32 x1_.2.2.2.2.2.2.2.1), (.int .u32 x1_.2.2.2.2.2.2.2.2.1), (.int .u32 x1_.2.2.2.2.2.2.2.2.2.1), (.int .u32 x1_.2.2.2.2.2.2.2.2.2.2.1)]⟩)])) fun (r2_ : (SL) × (Int) × Unit) =>
 M.pure (.tuple ⟨[(.slice r2_.1.1 r2_.1.2.1 r2_.1.2.2), (.int .i64 r2_.2.1)]⟩)
def f262c1 (X : XT) (L : LoopI) (x : (Int × Int × Int × Int × Int × Int × Int × Int × Int × Int × Int × Unit) × Unit) : M (Value) :=
 M.new (.cells (Row.ofList [(.int .i64 x.1.1), (.int .i64 x.1.2.1), (.int .i64 x.1.2.2.1), (.int .i64 x.1.2.2.2.1), (.int .u32 x.1.2.2.2.2.1), (.int .u32 x.1.2.2.2.2.2.1), (.int .u32 x.1.2.2.2.2.2.2.1), (.int .u32 x.1.2.2.2.2.2.2.2.1), (.int .u32 x.1.2.2.2.2.2.2.2.2.1), (.int .u32 x.1.2.2.2.2.2.2.2.2.2.1), (.int .u32 x.1.2.2.2.2.2.2.2.2.2.2.1)]) 198 false (0, 0) false) fun b0_ =>
 M.load (.agg [(.int .i64), (.int .i64), (.int .i64), (.int .i64), (.int .u32), (.int .u32), (.int .u32), (.int .u32), (.int .u32), (.int .u32), (.int .u32)]) 11 ((Addr.mk b0_ 0 none).add 0) fun (x1_ : Int × Int × Int × Int × Int × Int × Int × Int × Int × Int × Int × Unit) =>
 f262c0 X L x1_
def f262 (X : XT) (L : LoopI) (x : (Int × Int × Int × Int × Int × Int × Int × Int × Int × Int × Int × Unit) × Unit) : M Value :=
 f262c1 X L x

theorem e262 (X : XT) (L : LoopI) (x : (Int × Int × Int × Int × Int × Int × Int × Int × Int × Int × Int × Unit) × Unit) : evBody CC { call := X, loop := L } 262 (shsInj [(.agg [(.int .i64), (.int .i64), (.int .i64), (.int .i64), (.int .u32), (.int .u32), (.int .u32), (.int .u32), (.int .u32), (.int .u32), (.int .u32)])] x) = f262 X L x := by kernel_rfl

/-- (hayrick/store.node).record -/
def f263c0 (X : XT) (L : LoopI) (b0_ : Nat) : M (Value) :=
 M.new (.cells (Row.ofList [(.int .i64 0), (.bool false), (.int .i64 0), (.int .i64 0)]) 143 false (0, 0) false) fun b1_ =>
 M.load (.cell (.int .i64)) 1 (((Addr.mk b0_ 0 none).add 0).add 0) fun (x2_ : Int) =>
 M.store (Addr.mk b1_ 0 none) [(.int .i64 3), (.bool false), (.int .i64 x2_), (.int .i64 0)]
 (M.load (.agg [(.int .i64), .bool, (.int .i64), (.int .i64)]) 4 (Addr.mk b1_ 0 none) fun (x3_ : Int × Bool × Int × Int × Unit) =>
 M.pure (.agg ⟨[(.int .i64 x3_.1), (.bool x3_.2.1), (.int .i64 x3_.2.2.1), (.int .i64 x3_.2.2.2.1)]⟩))
def f263 (X : XT) (L : LoopI) (x : (Int × Int × Int × Int × Int × Int × Int × Int × Int × Int × Int × Unit) × Unit) : M Value :=
 M.new (.cells (Row.ofList [(.int .i64 x.1.1), (.int .i64 x.1.2.1), (.int .i64 x.1.2.2.1), (.int .i64 x.1.2.2.2.1), (.int .u32 x.1.2.2.2.2.1), (.int .u32 x.1.2.2.2.2.2.1), (.int .u32 x.1.2.2.2.2.2.2.1), (.int .u32 x.1.2.2.2.2.2.2.2.1), (.int .u32 x.1.2.2.2.2.2.2.2.2.1), (.int .u32 x.1.2.2.2.2.2.2.2.2.2.1), (.int .u32 x.1.2.2.2.2.2.2.2.2.2.2.1)]) 198 false (0, 0) false) fun b0_ =>
 f263c0 X L b0_

theorem e263 (X : XT) (L : LoopI) (x : (Int × Int × Int × Int × Int × Int × Int × Int × Int × Int × Int × Unit) × Unit) : evBody CC { call := X, loop := L } 263 (shsInj [(.agg [(.int .i64), (.int .i64), (.int .i64), (.int .i64), (.int .u32), (.int .u32), (.int .u32), (.int .u32), (.int .u32), (.int .u32), (.int .u32)])] x) = f263 X L x := by kernel_rfl

end
end Go.Proofs.YtidadbppnmnfmaaGreatDoor.pa
