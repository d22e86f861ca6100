/-
  What the functions come to, part 1: each text, and that the reading gives it.
-/
import Derived.Test.YtidadbppnmnfmaaGreatDoorPaH
import Derived.KernelRfl
set_option linter.unusedVariables false
namespace Go.Proofs.YtidadbppnmnfmaaGreatDoor.pa
open Go Go.Eng
noncomputable section
/-- hayrick/hayrickref12.Put -/
def f53c0 (X : XT) (L : LoopI) (x : (SL) × Unit) (s2_ : (SL) × (Int) × Unit) (b5_ : Nat) (s18_ : (Int) × Unit) (a19_ : Addr) : M (((Int) × Unit) ⊕ ((Unit) ⊕ (Unit))) :=
 M.load (.cell .string) 1 ((a19_.add ((Int.toNat s2_.2.1) * 2)).add 1) fun (x20_ : ByteArray) =>
 M.ite (ltB s18_.1 ((x20_.size : Nat) : Int))
 (let v23_ : Int := addW .i64 3 s18_.1
 M.guard (inB s2_.2.1 x.1.2.1)
 (M.deref x.1.1 fun a24_ =>
 M.load (.cell .string) 1 ((a24_.add ((Int.toNat s2_.2.1) * 2)).add 1) fun (x25_ : ByteArray) =>
 M.guard (inB s18_.1 x25_.size)
 (M.guard (inB v23_ (Int.toNat 28))
 (M.store ((Addr.mk b5_ 0 none).add ((Int.toNat v23_) * 1)) [(.int .u8 (byteAt x25_ s18_.1))]
 (M.pure (.inl ((addW .i64 s18_.1 1), ())))))))
 (M.pure (.inr (.inl (()))))
def f53c1 (X : XT) (L : LoopI) (x : (SL) × Unit) (s2_ : (SL) × (Int) × Unit) (b5_ : Nat) (v17_ : Int) : M (((SL) × (Int) × Unit) ⊕ (((SL) × Unit) ⊕ (Unit))) :=
 M.guard (inB 2 (Int.toNat 28))
 (M.store ((Addr.mk b5_ 0 none).add ((Int.toNat 2) * 1)) [(.int .u8 v17_)]
 (M.bind (L (σ := (Int) × Unit) (ρ := (Unit) ⊕ (Unit)) (fun s18_ =>
 M.guard (inB s2_.2.1 x.1.2.1)
 (M.deref x.1.1 fun a19_ =>
 f53c0 X L x s2_ b5_ s18_ a19_)) (0, ())) <| M.sum (fun (j28_ : Unit) =>
 M.append 5 1 1 s2_.1.1 s2_.1.2.1 s2_.1.2.2 (.slice (some (Addr.mk b5_ 0 none)) (Int.toNat 28) (Int.toNat 28)) fun a29_ n30_ c31_ =>
 M.pure (.inl ((a29_, n30_, c31_), (addW .i64 s2_.2.1 1), ()))) (fun _ => M.stuck)))
def f53c2 (X : XT) (L : LoopI) (x : (SL) × Unit) (s2_ : (SL) × (Int) × Unit) (b5_ : Nat) : M (((SL) × (Int) × Unit) ⊕ (((SL) × Unit) ⊕ (Unit))) :=
 M.guard (inB s2_.2.1 x.1.2.1)
 (M.deref x.1.1 fun a10_ =>
 M.load (.cell (.int .i64)) 1 ((a10_.add ((Int.toNat s2_.2.1) * 2)).add 0) fun (x11_ : Int) =>
 M.guard (!(decide (256 = 0)))
 (M.guard (inB 1 (Int.toNat 28))
 (M.store ((Addr.mk b5_ 0 none).add ((Int.toNat 1) * 1)) [(.int .u8 (wrapW .u8 ((x11_ : Int).tmod 256)))]
 (M.guard (inB s2_.2.1 x.1.2.1)
 (M.deref x.1.1 fun a14_ =>
 M.load (.cell .string) 1 ((a14_.add ((Int.toNat s2_.2.1) * 2)).add 1) fun (x15_ : ByteArray) =>
 f53c1 X L x s2_ b5_ (wrapW .u8 ((x15_.size : Nat) : Int)))))))
def f53c3 (X : XT) (L : LoopI) (x : (SL) × Unit) (s2_ : (SL) × (Int) × Unit) : M (((SL) × (Int) × Unit) ⊕ (((SL) × Unit) ⊕ (Unit))) :=
 M.guard (decide (0 ≤ 28) && decide (28 ≤ 28) && decide ((1 : Int) * 28 ≤ 2 ^ 48))
 (M.new (.cells (Row.rep [(.int .u8 0)] (Int.toNat 28)) 5 false (0, 0) false) fun b5_ =>
 M.guard (inB s2_.2.1 x.1.2.1)
 (M.deref x.1.1 fun a6_ =>
 M.load (.cell (.int .i64)) 1 ((a6_.add ((Int.toNat s2_.2.1) * 2)).add 0) fun (x7_ : Int) =>
 M.guard (!(decide (256 = 0)))
 (M.guard (inB 0 (Int.toNat 28))
 (M.store ((Addr.mk b5_ 0 none).add ((Int.toNat 0) * 1)) [(.int .u8 (wrapW .u8 (IntKind.i64.wrap ((x7_ : Int).tdiv 256))))]
 (f53c2 X L x s2_ b5_)))))
def f53 (X : XT) (L : LoopI) (x : (SL) × Unit) : M Value :=
 M.callS (.one (.cell .bool)) (X (.call 76 [(.slice x.1.1 x.1.2.1 x.1.2.2)])) fun (r0_ : Bool) =>
 M.ite (!r0_)
 (M.pure (.tuple ⟨[(.slice none 0 0), (.int .i64 1)]⟩))
 (M.bind (L (σ := (SL) × (Int) × Unit) (ρ := ((SL) × Unit) ⊕ (Unit)) (fun s2_ =>
 M.ite (ltB s2_.2.1 ((x.1.2.1 : Nat) : Int))
 (f53c3 X L x s2_)
 (M.pure (.inr (.inl (s2_.1, ()))))) ((none, 0, 0), 0, ())) <| M.sum (fun (j33_ : (SL) × Unit) =>
 M.pure (.tuple ⟨[(.slice j33_.1.1 j33_.1.2.1 j33_.1.2.2), (.int .i64 0)]⟩)) (fun _ => M.stuck))

theorem e53 (X : XT) (L : LoopI) (x : (SL) × Unit) : evBody CC { call := X, loop := L } 53 (shsInj [(.cell .slice)] x) = f53 X L x := by kernel_rfl

/-- hayrick/dirs.in[int] -/
def f54c0 (X : XT) (L : LoopI) (x : (PA) × (Int) × (Value) × Unit) (r4_ : (SL) × (Int) × Unit) : M (Value) :=
 M.callS (.tuple [(.cell .slice), (.cell (.int .i64))]) (X (.call 78 [(.slice r4_.1.1 r4_.1.2.1 r4_.1.2.2)])) fun (r6_ : (SL) × (Int) × Unit) =>
 M.ite (!(eqB r6_.2.1 0))
 (M.pure (.tuple ⟨[(.int .i64 0), (.int .i64 r6_.2.1)]⟩))
 (callV CC ⟨X, L⟩ x.2.2.1 [(.slice r6_.1.1 r6_.1.2.1 r6_.1.2.2)] fun w9_ => M.need (RSh.prj (.tuple [(.cell (.int .i64)), (.cell (.int .i64))]) w9_) fun (r8_ : (Int) × (Int) × Unit) =>
 M.ite (!(eqB r8_.2.1 0))
 (M.pure (.tuple ⟨[(.int .i64 0), (.int .i64 r8_.2.1)]⟩))
 (M.pure (.tuple ⟨[(.int .i64 r8_.1), (.int .i64 0)]⟩)))
def f54c1 (X : XT) (L : LoopI) (x : (PA) × (Int) × (Value) × Unit) (r0_ : (Int × Int × Int × Int × Int × Int × Int × Int × Int × Int × Int × Unit) × (Int) × Unit) (b1_ : Nat) : M (Value) :=
 M.store (Addr.mk b1_ 0 none) [(.int .i64 r0_.1.1), (.int .i64 r0_.1.2.1), (.int .i64 r0_.1.2.2.1), (.int .i64 r0_.1.2.2.2.1), (.int .u32 r0_.1.2.2.2.2.1), (.int .u32 r0_.1.2.2.2.2.2.1), (.int .u32 r0_.1.2.2.2.2.2.2.1), (.int .u32 r0_.1.2.2.2.2.2.2.2.1), (.int .u32 r0_.1.2.2.2.2.2.2.2.2.1), (.int .u32 r0_.1.2.2.2.2.2.2.2.2.2.1), (.int .u32 r0_.1.2.2.2.2.2.2.2.2.2.2.1)]
 (M.ite (!(eqB r0_.2.1 0))
 (M.pure (.tuple ⟨[(.int .i64 0), (.int .i64 r0_.2.1)]⟩))
 (M.load (.cell (.int .i64)) 1 ((Addr.mk b1_ 0 none).add 2) fun (x3_ : Int) =>
 M.callS (.tuple [(.cell .slice), (.cell (.int .i64))]) (X (.call 77 [(.pointer x.1), (.int .i64 x.2.1), (.int .i64 0), (.int .i64 x3_)])) fun (r4_ : (SL) × (Int) × Unit) =>
 M.ite (!(eqB r4_.2.1 0))
 (M.pure (.tuple ⟨[(.int .i64 0), (.int .i64 r4_.2.1)]⟩))
 (f54c0 X L x r4_)))
def f54c2 (X : XT) (L : LoopI) (x : (PA) × (Int) × (Value) × Unit) : M (Value) :=
 M.callS (.tuple [(.agg [(.int .i64), (.int .i64), (.int .i64), (.int .i64), (.int .u32), (.int .u32), (.int .u32), (.int .u32), (.int .u32), (.int .u32), (.int .u32)]), (.cell (.int .i64))]) (X (.call 57 [(.pointer x.1), (.int .i64 x.2.1)])) fun (r0_ : (Int × Int × Int × Int × Int × Int × Int × Int × Int × Int × Int × Unit) × (Int) × Unit) =>
 M.new (.cells (Row.ofList [(.int .i64 0), (.int .i64 0), (.int .i64 0), (.int .i64 0), (.int .u32 0), (.int .u32 0), (.int .u32 0), (.int .u32 0), (.int .u32 0), (.int .u32 0), (.int .u32 0)]) 76 false (0, 0) false) fun b1_ =>
 f54c1 X L x r0_ b1_
def f54 (X : XT) (L : LoopI) (x : (PA) × (Int) × (Value) × Unit) : M Value :=
 f54c2 X L x

theorem e54 (X : XT) (L : LoopI) (x : (PA) × (Int) × (Value) × Unit) : evBody CC { call := X, loop := L } 54 (shsInj [(.cell .ptr), (.cell (.int .i64)), (.cell .val)] x) = f54 X L x := by kernel_rfl

/-- hayrick/dirs.Lookup$1 -/
def f55 (X : XT) (L : LoopI) (x : (SL) × (PA) × Unit) : M Value :=
 M.deref x.2.1 fun a0_ =>
 M.load (.cell .string) 1 a0_ fun (x1_ : ByteArray) =>
 M.callS (.tuple [(.cell (.int .i64)), (.cell .bool)]) (X (.call 56 [(.slice x.1.1 x.1.2.1 x.1.2.2), (.string x1_)])) fun (r2_ : (Int) × (Bool) × Unit) =>
 M.ite (!r2_.2.1)
 (M.pure (.tuple ⟨[(.int .i64 0), (.int .i64 32)]⟩))
 (M.guard (inB r2_.1 x.1.2.1)
 (M.deref x.1.1 fun a4_ =>
 M.load (.cell (.int .i64)) 1 ((a4_.add ((Int.toNat r2_.1) * 2)).add 0) fun (x5_ : Int) =>
 M.pure (.tuple ⟨[(.int .i64 x5_), (.int .i64 0)]⟩)))

theorem e55 (X : XT) (L : LoopI) (x : (SL) × (PA) × Unit) : evBody CC { call := X, loop := L } 55 (shsInj [(.cell .slice), (.cell .ptr)] x) = f55 X L x := by kernel_rfl

/-- hayrick/entry.Find -/
def f56c0 (X : XT) (L : LoopI) (x : (SL) × (ByteArray) × Unit) (b0_ : Nat) (r1_ : Int) : M (Value) :=
 M.guard (inB r1_ x.1.2.1)
 (M.deref x.1.1 fun a4_ =>
 M.load (.cell .string) 1 ((a4_.add ((Int.toNat r1_) * 2)).add 1) fun (x5_ : ByteArray) =>
 M.load (.cell .string) 1 (Addr.mk b0_ 0 none) fun (x6_ : ByteArray) =>
 M.load (.cell .string) 1 (Addr.mk b0_ 0 none) fun (x8_ : ByteArray) => cond (veqv (.string x8_) (.string x6_)) (M.load (.cell .string) 1 ((a4_.add ((Int.toNat r1_) * 2)).add 1) fun (x9_ : ByteArray) => cond (veqv (.string x9_) (.string x5_)) (M.pure (.tuple ⟨[(.int .i64 r1_), (.bool (seq x5_ x6_))]⟩)) M.stuck) M.stuck)
def f56 (X : XT) (L : LoopI) (x : (SL) × (ByteArray) × Unit) : M Value :=
 M.new (.cells (Row.ofList [(.string x.2.1)]) 9 false (0, 0) false) fun b0_ =>
 M.callS (.one (.cell (.int .i64))) (X (.call 79 [(.slice x.1.1 x.1.2.1 x.1.2.2), (.func (.func 80) ⟨[]⟩ ⟨[(.pointer (some (Addr.mk b0_ 0 none)))]⟩)])) fun (r1_ : Int) =>
 M.ite (ltB r1_ 0)
 (M.pure (.tuple ⟨[(.int .i64 ((x.1.2.1 : Nat) : Int)), (.bool false)]⟩))
 (f56c0 X L x b0_ r1_)

theorem e56 (X : XT) (L : LoopI) (x : (SL) × (ByteArray) × Unit) : evBody CC { call := X, loop := L } 56 (shsInj [(.cell .slice), (.cell .string)] x) = f56 X L x := by kernel_rfl

/-- hayrick/dirs.load -/
def f57c0 (X : XT) (L : LoopI) (b0_ : Nat) : M (Value) :=
 M.load (.agg [(.int .i64), (.int .i64), (.int .i64), (.int .i64), (.int .u32), (.int .u32), (.int .u32), (.int .u32), (.int .u32), (.int .u32), (.int .u32)]) 11 (Addr.mk b0_ 0 none) fun (x2_ : Int × Int × Int × Int × Int × Int × Int × Int × Int × Int × Int × Unit) =>
 M.pure (.tuple ⟨[(.agg ⟨[(.int .i64 x2_.1), (.int .i64 x2_.2.1), (.int .i64 x2_.2.2.1), (.int .i64 x2_.2.2.2.1), (.int .u32 x2_.2.2.2.2.1), (.int .u32 x2_.2.2.2.2.2.1), (.int .u32 x2_.2.2.2.2.2.2.1), (.int .u32 x2_.2.2.2.2.2.2.2.1), (.int .u32 x2_.2.2.2.2.2.2.2.2.1), (.int .u32 x2_.2.2.2.2.2.2.2.2.2.1), (.int .u32 x2_.2.2.2.2.2.2.2.2.2.2.1)]⟩), (.int .i64 2)]⟩)
def f57c1 (X : XT) (L : LoopI) (b0_ : Nat) (j5_ : (Int) × Unit) : M (Value) :=
 M.load (.agg [(.int .i64), (.int .i64), (.int .i64), (.int .i64), (.int .u32), (.int .u32), (.int .u32), (.int .u32), (.int .u32), (.int .u32), (.int .u32)]) 11 (Addr.mk b0_ 0 none) fun (x8_ : Int × Int × Int × Int × Int × Int × Int × Int × Int × Int × Int × Unit) =>
 M.pure (.tuple ⟨[(.agg ⟨[(.int .i64 x8_.1), (.int .i64 x8_.2.1), (.int .i64 x8_.2.2.1), (.int .i64 x8_.2.2.2.1), (.int .u32 x8_.2.2.2.2.1), (.int .u32 x8_.2.2.2.2.2.1), (.int .u32 x8_.2.2.2.2.2.2.1), (.int .u32 x8_.2.2.2.2.2.2.2.1), (.int .u32 x8_.2.2.2.2.2.2.2.2.1), (.int .u32 x8_.2.2.2.2.2.2.2.2.2.1), (.int .u32 x8_.2.2.2.2.2.2.2.2.2.2.1)]⟩), (.int .i64 j5_.1)]⟩)
def f57c2 (X : XT) (L : LoopI) (b0_ : Nat) (b4_ : Nat) (j5_ : (Int) × Unit) : M (Value) :=
 M.load (.agg [(.int .i64), (.int .i64), (.int .i64), (.int .i64), (.int .u32), (.int .u32), (.int .u32), (.int .u32), (.int .u32), (.int .u32), (.int .u32)]) 11 (Addr.mk b4_ 0 none) fun (x7_ : Int × Int × Int × Int × Int × Int × Int × Int × Int × Int × Int × Unit) =>
 M.store (Addr.mk b0_ 0 none) [(.int .i64 x7_.1), (.int .i64 x7_.2.1), (.int .i64 x7_.2.2.1), (.int .i64 x7_.2.2.2.1), (.int .u32 x7_.2.2.2.2.1), (.int .u32 x7_.2.2.2.2.2.1), (.int .u32 x7_.2.2.2.2.2.2.1), (.int .u32 x7_.2.2.2.2.2.2.2.1), (.int .u32 x7_.2.2.2.2.2.2.2.2.1), (.int .u32 x7_.2.2.2.2.2.2.2.2.2.1), (.int .u32 x7_.2.2.2.2.2.2.2.2.2.2.1)]
 (f57c1 X L b0_ j5_)
def f57c3 (X : XT) (L : LoopI) (b0_ : Nat) (r3_ : (Int × Int × Int × Int × Int × Int × Int × Int × Int × Int × Int × Unit) × (Int) × Unit) (b4_ : Nat) : M (Value) :=
 M.store (Addr.mk b4_ 0 none) [(.int .i64 r3_.1.1), (.int .i64 r3_.1.2.1), (.int .i64 r3_.1.2.2.1), (.int .i64 r3_.1.2.2.2.1), (.int .u32 r3_.1.2.2.2.2.1), (.int .u32 r3_.1.2.2.2.2.2.1), (.int .u32 r3_.1.2.2.2.2.2.2.1), (.int .u32 r3_.1.2.2.2.2.2.2.2.1), (.int .u32 r3_.1.2.2.2.2.2.2.2.2.1), (.int .u32 r3_.1.2.2.2.2.2.2.2.2.2.1), (.int .u32 r3_.1.2.2.2.2.2.2.2.2.2.2.1)]
 (M.join (fun (j5_ : (Int) × Unit) =>
 f57c2 X L b0_ b4_ j5_) fun go6_ =>
 M.join (fun (j9_ : (Bool) × Unit) =>
 M.ite j9_.1
 (go6_ (34, ()))
 (go6_ (r3_.2.1, ()))) fun go10_ =>
 M.ite (eqB r3_.2.1 0)
 (M.load (.cell (.int .i64)) 1 ((Addr.mk b4_ 0 none).add 1) fun (x12_ : Int) =>
 go10_ ((!(eqB x12_ 2)), ()))
 (go10_ (false, ())))
def f57c4 (X : XT) (L : LoopI) (x : (PA) × (Int) × Unit) (b0_ : Nat) : M (Value) :=
 M.callS (.tuple [(.agg [(.int .i64), (.int .i64), (.int .i64), (.int .i64), (.int .u32), (.int .u32), (.int .u32), (.int .u32), (.int .u32), (.int .u32), (.int .u32)]), (.cell (.int .i64))]) (X (.call 82 [(.pointer x.1), (.int .i64 x.2.1)])) fun (r3_ : (Int × Int × Int × Int × Int × Int × Int × Int × Int × Int × Int × Unit) × (Int) × Unit) =>
 M.new (.cells (Row.ofList [(.int .i64 0), (.int .i64 0), (.int .i64 0), (.int .i64 0), (.int .u32 0), (.int .u32 0), (.int .u32 0), (.int .u32 0), (.int .u32 0), (.int .u32 0), (.int .u32 0)]) 76 false (0, 0) false) fun b4_ =>
 f57c3 X L b0_ r3_ b4_
def f57c5 (X : XT) (L : LoopI) (x : (PA) × (Int) × Unit) : M (Value) :=
 M.new (.cells (Row.ofList [(.int .i64 0), (.int .i64 0), (.int .i64 0), (.int .i64 0), (.int .u32 0), (.int .u32 0), (.int .u32 0), (.int .u32 0), (.int .u32 0), (.int .u32 0), (.int .u32 0)]) 76 false (0, 0) false) fun b0_ =>
 M.eqPtr x.1 none fun (q1_ : Bool) =>
 M.ite q1_
 (M.store (Addr.mk b0_ 0 none) [(.int .i64 0), (.int .i64 0), (.int .i64 0), (.int .i64 0), (.int .u32 0), (.int .u32 0), (.int .u32 0), (.int .u32 0), (.int .u32 0), (.int .u32 0), (.int .u32 0)]
 (f57c0 X L b0_))
 (f57c4 X L x b0_)
def f57 (X : XT) (L : LoopI) (x : (PA) × (Int) × Unit) : M Value :=
 f57c5 X L x

theorem e57 (X : XT) (L : LoopI) (x : (PA) × (Int) × Unit) : evBody CC { call := X, loop := L } 57 (shsInj [(.cell .ptr), (.cell (.int .i64))] x) = f57 X L x := by kernel_rfl

/-- unicode/utf8.decodeRuneInStringSlow -/
def f58c0 (X : XT) (L : LoopI) (v2_ : Int) (v19_ : Int) (v29_ : Int) (v43_ : Int) (j44_ : (Bool) × Unit) : M (Value) :=
 M.ite j44_.1
 (M.pure (.tuple ⟨[(.int .i32 65533), (.int .i64 1)]⟩))
 (M.guard (decide (0 ≤ 18))
 (M.guard (decide (0 ≤ 12))
 (M.guard (decide (0 ≤ 6))
 (M.pure (.tuple ⟨[(.int .i32 (orW .i32 (orW .i32 (orW .i32 (IntKind.i32.wrap ((wrapW .i32 (andW .u8 v2_ 7)) * 2 ^ (min (Int.toNat 18) IntKind.i32.bits))) (IntKind.i32.wrap ((wrapW .i32 (andW .u8 v19_ 63)) * 2 ^ (min (Int.toNat 12) IntKind.i32.bits)))) (IntKind.i32.wrap ((wrapW .i32 (andW .u8 v29_ 63)) * 2 ^ (min (Int.toNat 6) IntKind.i32.bits)))) (wrapW .i32 (andW .u8 v43_ 63)))), (.int .i64 4)]⟩)))))
def f58c1 (X : XT) (L : LoopI) (x : (ByteArray) × Unit) (v2_ : Int) (v19_ : Int) (v29_ : Int) (v32_ : Bool) : M (Value) :=
 M.ite v32_
 (M.guard (decide (0 ≤ 12))
 (M.guard (decide (0 ≤ 6))
 (M.pure (.tuple ⟨[(.int .i32 (orW .i32 (orW .i32 (IntKind.i32.wrap ((wrapW .i32 (andW .u8 v2_ 15)) * 2 ^ (min (Int.toNat 12) IntKind.i32.bits))) (IntKind.i32.wrap ((wrapW .i32 (andW .u8 v19_ 63)) * 2 ^ (min (Int.toNat 6) IntKind.i32.bits)))) (wrapW .i32 (andW .u8 v29_ 63)))), (.int .i64 3)]⟩))))
 (M.guard (inB 3 x.1.size)
 (let v43_ : Int := byteAt x.1 3
 M.join (fun (j44_ : (Bool) × Unit) =>
 f58c0 X L v2_ v19_ v29_ v43_ j44_) fun go45_ =>
 M.ite (ltB v43_ 128)
 (go45_ (true, ()))
 (go45_ ((ltB 191 v43_), ()))))
def f58c2 (X : XT) (L : LoopI) (x : (ByteArray) × Unit) (v2_ : Int) (v14_ : Int) (v19_ : Int) (v22_ : Bool) : M (Value) :=
 M.ite v22_
 (M.guard (decide (0 ≤ 6))
 (M.pure (.tuple ⟨[(.int .i32 (orW .i32 (IntKind.i32.wrap ((wrapW .i32 (andW .u8 v2_ 31)) * 2 ^ (min (Int.toNat 6) IntKind.i32.bits))) (wrapW .i32 (andW .u8 v19_ 63)))), (.int .i64 2)]⟩)))
 (M.guard (inB 2 x.1.size)
 (let v29_ : Int := byteAt x.1 2
 M.join (fun (j30_ : (Bool) × Unit) =>
 M.ite j30_.1
 (M.pure (.tuple ⟨[(.int .i32 65533), (.int .i64 1)]⟩))
 (f58c1 X L x v2_ v19_ v29_ (leB v14_ 3))) fun go31_ =>
 M.ite (ltB v29_ 128)
 (go31_ (true, ()))
 (go31_ ((ltB 191 v29_), ()))))
def f58c3 (X : XT) (L : LoopI) (x : (ByteArray) × Unit) (v2_ : Int) (v14_ : Int) (b17_ : Nat) (v18_ : Bool) : M (Value) :=
 M.ite v18_
 (M.pure (.tuple ⟨[(.int .i32 65533), (.int .i64 1)]⟩))
 (M.guard (inB 1 x.1.size)
 (let v19_ : Int := byteAt x.1 1
 M.join (fun (j20_ : (Bool) × Unit) =>
 M.ite j20_.1
 (M.pure (.tuple ⟨[(.int .i32 65533), (.int .i64 1)]⟩))
 (f58c2 X L x v2_ v14_ v19_ (leB v14_ 2))) fun go21_ =>
 M.load (.cell (.int .u8)) 1 ((Addr.mk b17_ 0 none).add 0) fun (x64_ : Int) =>
 M.ite (ltB v19_ x64_)
 (go21_ (true, ()))
 (M.load (.cell (.int .u8)) 1 ((Addr.mk b17_ 0 none).add 1) fun (x66_ : Int) =>
 go21_ ((ltB x66_ v19_), ()))))
def f58c4 (X : XT) (L : LoopI) (x : (ByteArray) × Unit) (v0_ : Int) (v2_ : Int) (x3_ : Int) : M (Value) :=
 let v14_ : Int := wrapW .i64 (andW .u8 x3_ 7)
 M.guard (decide (0 ≤ 4))
 (let v15_ : Int := ((x3_ : Int)).fdiv (2 ^ (min (Int.toNat 4) IntKind.u8.bits))
 M.guard (inB v15_ 16)
 (M.load (.agg [(.int .u8), (.int .u8)]) 2 ((Addr.mk 1 0 none).add ((Int.toNat v15_) * 2)) fun (x16_ : Int × Int × Unit) =>
 M.new (.cells (Row.ofList [(.int .u8 0), (.int .u8 0)]) 157 false (0, 0) false) fun b17_ =>
 M.store (Addr.mk b17_ 0 none) [(.int .u8 x16_.1), (.int .u8 x16_.2.1)]
 (f58c3 X L x v2_ v14_ b17_ (ltB v0_ v14_))))
def f58c5 (X : XT) (L : LoopI) (x : (ByteArray) × Unit) (v0_ : Int) (v2_ : Int) : M (Value) :=
 M.load (.cell (.int .u8)) 1 ((Addr.mk 0 0 none).add ((Int.toNat v2_) * 1)) fun (x3_ : Int) =>
 M.ite (leB 240 x3_)
 (M.guard (decide (0 ≤ 31))
 (M.guard (decide (0 ≤ 31))
 (let v7_ : Int := (((IntKind.i32.wrap ((wrapW .i32 x3_) * 2 ^ (min (Int.toNat 31) IntKind.i32.bits))) : Int)).fdiv (2 ^ (min (Int.toNat 31) IntKind.i32.bits))
 M.guard (inB 0 x.1.size)
 (M.pure (.tuple ⟨[(.int .i32 (orW .i32 (bitsV .andNot .i32 (wrapW .i32 (byteAt x.1 0)) v7_) (andW .i32 65533 v7_))), (.int .i64 1)]⟩)))))
 (f58c4 X L x v0_ v2_ x3_)
def f58 (X : XT) (L : LoopI) (x : (ByteArray) × Unit) : M Value :=
 let v0_ : Int := ((x.1.size : Nat) : Int)
 M.ite (ltB v0_ 1)
 (M.pure (.tuple ⟨[(.int .i32 65533), (.int .i64 0)]⟩))
 (M.guard (inB 0 x.1.size)
 (let v2_ : Int := byteAt x.1 0
 M.guard (inB v2_ 256)
 (f58c5 X L x v0_ v2_)))

theorem e58 (X : XT) (L : LoopI) (x : (ByteArray) × Unit) : evBody CC { call := X, loop := L } 58 (shsInj [(.cell .string)] x) = f58 X L x := by kernel_rfl

/-- hayrick/hayricklaw08.Made -/
def f60c0 (X : XT) (L : LoopI) (x : (Int) × (Int) × (Int) × (Int) × Unit) (b1_ : Nat) (r9_ : (PA) × (Int) × Unit) (r13_ : (PA) × (Int) × Unit) : M (Value) :=
 M.load (.agg [(.int .i64), (.int .i64), (.int .i64)]) 3 (Addr.mk b1_ 0 none) fun (x14_ : Int × Int × Int × Unit) =>
 M.callS (.tuple [(.cell .ptr), (.cell (.int .i64))]) (X (.call 86 [(.pointer r9_.1), (.agg ⟨[(.int .i64 x14_.1), (.int .i64 x14_.2.1), (.int .i64 x14_.2.2.1)]⟩), (.int .i64 x.2.2.2.1)])) fun (r15_ : (PA) × (Int) × Unit) =>
 M.join (fun (j16_ : (Bool) × Unit) =>
 M.ite j16_.1
 (M.pure (.tuple ⟨[(.pointer none), (.pointer none)]⟩))
 (M.pure (.tuple ⟨[(.pointer r13_.1), (.pointer r15_.1)]⟩))) fun go17_ =>
 M.ite (!(eqB r13_.2.1 0))
 (go17_ (true, ()))
 (go17_ ((!(eqB r15_.2.1 0)), ()))
def f60c1 (X : XT) (L : LoopI) (x : (Int) × (Int) × (Int) × (Int) × Unit) (b1_ : Nat) (r5_ : (PA) × (Int) × Unit) (r9_ : (PA) × (Int) × Unit) : M (Value) :=
 M.join (fun (j10_ : (Bool) × Unit) =>
 M.ite j10_.1
 (M.pure (.tuple ⟨[(.pointer none), (.pointer none)]⟩))
 (M.load (.agg [(.int .i64), (.int .i64), (.int .i64)]) 3 (Addr.mk b1_ 0 none) fun (x12_ : Int × Int × Int × Unit) =>
 M.callS (.tuple [(.cell .ptr), (.cell (.int .i64))]) (X (.call 85 [(.pointer r5_.1), (.agg ⟨[(.int .i64 x12_.1), (.int .i64 x12_.2.1), (.int .i64 x12_.2.2.1)]⟩), (.int .i64 x.2.2.2.1)])) fun (r13_ : (PA) × (Int) × Unit) =>
 f60c0 X L x b1_ r9_ r13_)) fun go11_ =>
 M.ite (!(eqB r5_.2.1 0))
 (go11_ (true, ()))
 (go11_ ((!(eqB r9_.2.1 0)), ()))
def f60c2 (X : XT) (L : LoopI) (x : (Int) × (Int) × (Int) × (Int) × Unit) (b1_ : Nat) : M (Value) :=
 M.load (.cell (.int .i64)) 1 ((Addr.mk b1_ 0 none).add 1) fun (x2_ : Int) =>
 M.callS (.tuple [(.cell .ptr), (.cell (.int .i64))]) (X (.call 83 [(.int .i64 x2_), (.int .i64 (addW .i64 x.2.2.2.1 (mulW .i64 8 x.2.2.1)))])) fun (r5_ : (PA) × (Int) × Unit) =>
 M.load (.cell (.int .i64)) 1 ((Addr.mk b1_ 0 none).add 1) fun (x6_ : Int) =>
 M.callS (.tuple [(.cell .ptr), (.cell (.int .i64))]) (X (.call 84 [(.int .i64 x6_), (.int .i64 (addW .i64 x.2.2.2.1 (mulW .i64 8 x.2.2.1)))])) fun (r9_ : (PA) × (Int) × Unit) =>
 f60c1 X L x b1_ r5_ r9_
def f60 (X : XT) (L : LoopI) (x : (Int) × (Int) × (Int) × (Int) × Unit) : M Value :=
 M.new (.cells (Row.ofList [(.int .i64 0), (.int .i64 0), (.int .i64 0)]) 160 false (0, 0) false) fun b1_ =>
 M.store (Addr.mk b1_ 0 none) [(.int .i64 x.1), (.int .i64 (addW .i64 x.1 x.2.1)), (.int .i64 x.2.2.1)]
 (f60c2 X L x b1_)

theorem e60 (X : XT) (L : LoopI) (x : (Int) × (Int) × (Int) × (Int) × Unit) : evBody CC { call := X, loop := L } 60 (shsInj [(.cell (.int .i64)), (.cell (.int .i64)), (.cell (.int .i64)), (.cell (.int .i64))] x) = f60 X L x := by kernel_rfl

/-- hayrick/logs.New -/
def f61c0 (X : XT) (L : LoopI) (x : (PA) × (Int) × (SL) × (SL) × Unit) : M (Value) :=
 M.callS (.one (.cell .slice)) (X (.call 90 [(.slice x.2.2.1.1 x.2.2.1.2.1 x.2.2.1.2.2)])) fun (r5_ : SL) =>
 M.callS (.one (.cell .slice)) (X (.call 91 [(.slice x.2.2.2.1.1 x.2.2.2.1.2.1 x.2.2.2.1.2.2)])) fun (r6_ : SL) =>
 M.new (.cells (Row.ofList [(.pointer x.1), (.int .u64 x.2.1), (.slice r5_.1 r5_.2.1 r5_.2.2), (.slice r6_.1 r6_.2.1 r6_.2.2), (.int .i64 (-1)), (.slice none 0 0), (.slice none 0 0), (.bool false)]) 179 false (0, 0) false) fun b7_ =>
 M.pure (.tuple ⟨[(.pointer (some (Addr.mk b7_ 0 none))), (.int .i64 0)]⟩)
def f61c1 (X : XT) (L : LoopI) (x : (PA) × (Int) × (SL) × (SL) × Unit) : M (Value) :=
 M.callS (.one (.agg [(.int .i64), (.int .i64), (.int .i64)])) (X (.call 88 [(.pointer x.1)])) fun (r2_ : Int × Int × Int × Unit) =>
 M.join (fun (j3_ : (Bool) × Unit) =>
 M.ite j3_.1
 (M.pure (.tuple ⟨[(.pointer none), (.int .i64 1)]⟩))
 (f61c0 X L x)) fun go4_ =>
 M.ite (eqB x.2.1 0)
 (go4_ (true, ()))
 (M.ite (!(eqB ((x.2.2.1.2.1 : Nat) : Int) r2_.2.2.1))
 (go4_ (true, ()))
 (M.callS (.one (.cell .bool)) (X (.call 89 [(.slice x.2.2.2.1.1 x.2.2.2.1.2.1 x.2.2.2.1.2.2), (.int .i64 r2_.2.2.1), (.int .i64 (-1))])) fun (r11_ : Bool) =>
 go4_ ((!r11_), ())))
def f61 (X : XT) (L : LoopI) (x : (PA) × (Int) × (SL) × (SL) × Unit) : M Value :=
 M.callS (.one (.cell .ptr)) (X (.call 87 [(.pointer x.1)])) fun (r0_ : PA) =>
 M.eqPtr r0_ none fun (q1_ : Bool) =>
 M.ite q1_
 (M.pure (.tuple ⟨[(.pointer none), (.int .i64 2)]⟩))
 (f61c1 X L x)

theorem e61 (X : XT) (L : LoopI) (x : (PA) × (Int) × (SL) × (SL) × Unit) : evBody CC { call := X, loop := L } 61 (shsInj [(.cell .ptr), (.cell (.int .u64)), (.cell .slice), (.cell .slice)] x) = f61 X L x := by kernel_rfl

/-- hayrick/hayricklaw17.Every -/
def f62c0 (X : XT) (L : LoopI) (x : (Int) × Unit) : M (Value) :=
 M.bind (L (σ := (SL) × (Int) × Unit) (ρ := ((SL) × Unit) ⊕ (Unit)) (fun s0_ =>
 M.ite (ltB s0_.2.1 x.1)
 (M.new (.cells (Row.ofList [(.int .i64 s0_.2.1)]) 3 false (0, 0) false) fun b2_ =>
 M.append 3 1 8 s0_.1.1 s0_.1.2.1 s0_.1.2.2 (.slice (some (Addr.mk b2_ 0 none)) 1 1) fun a3_ n4_ c5_ =>
 M.pure (.inl ((a3_, n4_, c5_), (addW .i64 s0_.2.1 1), ())))
 (M.pure (.inr (.inl (s0_.1, ()))))) ((none, 0, 0), 0, ())) <| M.sum (fun (j7_ : (SL) × Unit) =>
 M.pure (.slice j7_.1.1 j7_.1.2.1 j7_.1.2.2)) (fun _ => M.stuck)
def f62 (X : XT) (L : LoopI) (x : (Int) × Unit) : M Value :=
 f62c0 X L x

theorem e62 (X : XT) (L : LoopI) (x : (Int) × Unit) : evBody CC { call := X, loop := L } 62 (shsInj [(.cell (.int .i64))] x) = f62 X L x := by kernel_rfl

/-- hayrick/hayrickref17.New -/
def f63c0 (X : XT) (L : LoopI) (x : (PA) × (Int) × (SL) × (SL) × Unit) (r2_ : (SL) × (Bool) × Unit) : M (Value) :=
 M.join (fun (j3_ : (Bool) × Unit) =>
 M.ite j3_.1
 (M.pure (.tuple ⟨[(.pointer none), (.int .i64 1)]⟩))
 (M.append 126 1 8 none 0 0 (.slice x.2.2.1.1 x.2.2.1.2.1 x.2.2.1.2.2) fun a5_ n6_ c7_ =>
 M.new (.cells (Row.ofList [(.pointer x.1), (.int .u64 x.2.1), (.slice a5_ n6_ c7_), (.slice r2_.1.1 r2_.1.2.1 r2_.1.2.2), (.int .i64 (-1)), (.slice none 0 0), (.slice none 0 0), (.bool false)]) 186 false (0, 0) false) fun b8_ =>
 M.pure (.tuple ⟨[(.pointer (some (Addr.mk b8_ 0 none))), (.int .i64 0)]⟩))) fun go4_ =>
 M.ite (eqB x.2.1 0)
 (go4_ (true, ()))
 (M.deref x.1 fun a11_ =>
 M.load (.cell (.int .i64)) 1 ((a11_.add 1).add 2) fun (x12_ : Int) =>
 M.ite (!(eqB ((x.2.2.1.2.1 : Nat) : Int) x12_))
 (go4_ (true, ()))
 (go4_ ((!r2_.2.1), ())))
def f63 (X : XT) (L : LoopI) (x : (PA) × (Int) × (SL) × (SL) × Unit) : M Value :=
 M.deref x.1 fun a0_ =>
 M.load (.cell (.int .i64)) 1 ((a0_.add 1).add 2) fun (x1_ : Int) =>
 M.callS (.tuple [(.cell .slice), (.cell .bool)]) (X (.call 92 [(.slice x.2.2.2.1.1 x.2.2.2.1.2.1 x.2.2.2.1.2.2), (.int .i64 x1_), (.int .i64 (-1))])) fun (r2_ : (SL) × (Bool) × Unit) =>
 f63c0 X L x r2_

theorem e63 (X : XT) (L : LoopI) (x : (PA) × (Int) × (SL) × (SL) × Unit) : evBody CC { call := X, loop := L } 63 (shsInj [(.cell .ptr), (.cell (.int .u64)), (.cell .slice), (.cell .slice)] x) = f63 X L x := by kernel_rfl

/-- (*hayrick/logs.Log).Stripes -/
def f64 (X : XT) (L : LoopI) (x : (PA) × Unit) : M Value :=
 M.eqPtr x.1 none fun (q0_ : Bool) =>
 M.ite q0_
 (M.pure (.pointer none))
 (M.deref x.1 fun a1_ =>
 M.load (.cell .ptr) 1 (a1_.add 0) fun (x2_ : PA) =>
 M.pure (.pointer x2_))

theorem e64 (X : XT) (L : LoopI) (x : (PA) × Unit) : evBody CC { call := X, loop := L } 64 (shsInj [(.cell .ptr)] x) = f64 X L x := by kernel_rfl

/-- slices.ContainsFunc[[]uint32,uint32] -/
def f65 (X : XT) (L : LoopI) (x : (SL) × (Value) × Unit) : M Value :=
 M.callS (.one (.cell (.int .i64))) (X (.call 93 [(.slice x.1.1 x.1.2.1 x.1.2.2), x.2.1])) fun (r0_ : Int) =>
 M.pure (.bool (leB 0 r0_))

theorem e65 (X : XT) (L : LoopI) (x : (SL) × (Value) × Unit) : evBody CC { call := X, loop := L } 65 (shsInj [(.cell .slice), (.cell .val)] x) = f65 X L x := by kernel_rfl

/-- hayrick/inode.May$1 -/
def f66 (X : XT) (L : LoopI) (x : (Int) × Unit) : M Value :=
 M.pure (.bool (!(eqB x.1 0)))

theorem e66 (X : XT) (L : LoopI) (x : (Int) × Unit) : evBody CC { call := X, loop := L } 66 (shsInj [(.cell (.int .u32))] x) = f66 X L x := by kernel_rfl

/-- (*hayrick/store.Store).put -/
def f67c0 (X : XT) (L : LoopI) (r6_ : (SL) × (Int) × Unit) (b13_ : Nat) (a14_ : Addr) : M (Value) :=
 M.load (.cell .ptr) 1 (a14_.add 0) fun (x15_ : PA) =>
 M.load (.agg [(.int .i64), .bool, (.int .i64), (.int .i64)]) 4 (Addr.mk b13_ 0 none) fun (x16_ : Int × Bool × Int × Int × Unit) =>
 M.callS (.tuple [(.cell (.int .u32)), (.cell (.int .i64))]) (X (.call 95 [(.pointer x15_), (.agg ⟨[(.int .i64 x16_.1), (.bool x16_.2.1), (.int .i64 x16_.2.2.1), (.int .i64 x16_.2.2.2.1)]⟩), (.slice r6_.1.1 r6_.1.2.1 r6_.1.2.2)])) fun (r17_ : (Int) × (Int) × Unit) =>
 M.pure (.tuple ⟨[(.int .u32 r17_.1), (.int .i64 r17_.2.1)]⟩)
def f67c1 (X : XT) (L : LoopI) (x : (PA) × (Value) × (Bool) × Unit) (r6_ : (SL) × (Int) × Unit) : M (Value) :=
 match x.2.1 with
 | .iface t8_ y9_ => M.need (methodA CC t8_ "hayrick/store.record") fun f10_ => callF CC ⟨X, L⟩ f10_ (y9_ :: []) fun w11_ => M.need (RSh.prj (.one (.agg [(.int .i64), .bool, (.int .i64), (.int .i64)])) w11_) fun (r12_ : Int × Bool × Int × Int × Unit) =>
 (M.new (.cells (Row.ofList [(.int .i64 0), (.bool false), (.int .i64 0), (.int .i64 0)]) 143 false (0, 0) false) fun b13_ =>
 M.store (Addr.mk b13_ 0 none) [(.int .i64 r12_.1), (.bool r12_.2.1), (.int .i64 r12_.2.2.1), (.int .i64 r12_.2.2.2.1)]
 (M.store ((Addr.mk b13_ 0 none).add 1) [(.bool x.2.2.1)]
 (M.deref x.1 fun a14_ =>
 f67c0 X L r6_ b13_ a14_)))
 | _ => M.stuck
def f67c2 (X : XT) (L : LoopI) (x : (PA) × (Value) × (Bool) × Unit) : M (Value) :=
 M.callS (.one (.cell (.int .i64))) (X (.call 94 [(.pointer x.1), (.int .i64 1)])) fun (r0_ : Int) =>
 M.ite (!(eqB r0_ 0))
 (M.pure (.tuple ⟨[(.int .u32 0), (.int .i64 r0_)]⟩))
 (match x.2.1 with
 | .iface t2_ y3_ => M.need (methodA CC t2_ "hayrick/store.block") fun f4_ => callF CC ⟨X, L⟩ f4_ (y3_ :: []) fun w5_ => M.need (RSh.prj (.tuple [(.cell .slice), (.cell (.int .i64))]) w5_) fun (r6_ : (SL) × (Int) × Unit) =>
 (M.ite (!(eqB r6_.2.1 0))
 (M.pure (.tuple ⟨[(.int .u32 0), (.int .i64 r6_.2.1)]⟩))
 (f67c1 X L x r6_))
 | _ => M.stuck)
def f67 (X : XT) (L : LoopI) (x : (PA) × (Value) × (Bool) × Unit) : M Value :=
 f67c2 X L x

theorem e67 (X : XT) (L : LoopI) (x : (PA) × (Value) × (Bool) × Unit) : evBody CC { call := X, loop := L } 67 (shsInj [(.cell .ptr), (.cell .val), (.cell .bool)] x) = f67 X L x := by kernel_rfl

/-- hayrick/points.Spread -/
def f69c0 (X : XT) (L : LoopI) (b1_ : Nat) : M (Value) :=
 M.load (.agg [(.int .i64), (.int .i64), (.int .i64), (.int .i64), (.int .u32), (.int .u32), (.int .u32), (.int .u32), (.int .u32), (.int .u32), (.int .u32)]) 11 (Addr.mk b1_ 0 none) fun (x4_ : Int × Int × Int × Int × Int × Int × Int × Int × Int × Int × Int × Unit) =>
 M.pure (.tuple ⟨[(.agg ⟨[(.int .i64 x4_.1), (.int .i64 x4_.2.1), (.int .i64 x4_.2.2.1), (.int .i64 x4_.2.2.2.1), (.int .u32 x4_.2.2.2.2.1), (.int .u32 x4_.2.2.2.2.2.1), (.int .u32 x4_.2.2.2.2.2.2.1), (.int .u32 x4_.2.2.2.2.2.2.2.1), (.int .u32 x4_.2.2.2.2.2.2.2.2.1), (.int .u32 x4_.2.2.2.2.2.2.2.2.2.1), (.int .u32 x4_.2.2.2.2.2.2.2.2.2.2.1)]⟩), (.slice none 0 0), (.int .i64 1)]⟩)
def f69c1 (X : XT) (L : LoopI) (b1_ : Nat) (r8_ : SL) : M (Value) :=
 M.load (.agg [(.int .i64), (.int .i64), (.int .i64), (.int .i64), (.int .u32), (.int .u32), (.int .u32), (.int .u32), (.int .u32), (.int .u32), (.int .u32)]) 11 (Addr.mk b1_ 0 none) fun (x10_ : Int × Int × Int × Int × Int × Int × Int × Int × Int × Int × Int × Unit) =>
 M.pure (.tuple ⟨[(.agg ⟨[(.int .i64 x10_.1), (.int .i64 x10_.2.1), (.int .i64 x10_.2.2.1), (.int .i64 x10_.2.2.2.1), (.int .u32 x10_.2.2.2.2.1), (.int .u32 x10_.2.2.2.2.2.1), (.int .u32 x10_.2.2.2.2.2.2.1), (.int .u32 x10_.2.2.2.2.2.2.2.1), (.int .u32 x10_.2.2.2.2.2.2.2.2.1), (.int .u32 x10_.2.2.2.2.2.2.2.2.2.1), (.int .u32 x10_.2.2.2.2.2.2.2.2.2.2.1)]⟩), (.slice r8_.1 r8_.2.1 r8_.2.2), (.int .i64 0)]⟩)
def f69c2 (X : XT) (L : LoopI) (b0_ : Nat) (b1_ : Nat) (x6_ : Int × Int × Int × Int × Int × Int × Int × Int × Int × Int × Int × Unit) (r8_ : SL) : M (Value) :=
 M.load (.agg [(.int .i64), (.int .i64), (.int .i64), (.int .i64), (.int .u32), (.int .u32), (.int .u32), (.int .u32), (.int .u32), (.int .u32), (.int .u32)]) 11 (Addr.mk b0_ 0 none) fun (x9_ : Int × Int × Int × Int × Int × Int × Int × Int × Int × Int × Int × Unit) => cond (veqv (.agg ⟨[(.int .i64 x9_.1), (.int .i64 x9_.2.1), (.int .i64 x9_.2.2.1), (.int .i64 x9_.2.2.2.1), (.int .u32 x9_.2.2.2.2.1), (.int .u32 x9_.2.2.2.2.2.1), (.int .u32 x9_.2.2.2.2.2.2.1), (.int .u32 x9_.2.2.2.2.2.2.2.1), (.int .u32 x9_.2.2.2.2.2.2.2.2.1), (.int .u32 x9_.2.2.2.2.2.2.2.2.2.1), (.int .u32 x9_.2.2.2.2.2.2.2.2.2.2.1)]⟩) (.agg ⟨[(.int .i64 x6_.1), (.int .i64 x6_.2.1), (.int .i64 x6_.2.2.1), (.int .i64 x6_.2.2.2.1), (.int .u32 x6_.2.2.2.2.1), (.int .u32 x6_.2.2.2.2.2.1), (.int .u32 x6_.2.2.2.2.2.2.1), (.int .u32 x6_.2.2.2.2.2.2.2.1), (.int .u32 x6_.2.2.2.2.2.2.2.2.1), (.int .u32 x6_.2.2.2.2.2.2.2.2.2.1), (.int .u32 x6_.2.2.2.2.2.2.2.2.2.2.1)]⟩)) (M.store (Addr.mk b1_ 0 none) [(.int .i64 x6_.1), (.int .i64 x6_.2.1), (.int .i64 x6_.2.2.1), (.int .i64 x6_.2.2.2.1), (.int .u32 x6_.2.2.2.2.1), (.int .u32 x6_.2.2.2.2.2.1), (.int .u32 x6_.2.2.2.2.2.2.1), (.int .u32 x6_.2.2.2.2.2.2.2.1), (.int .u32 x6_.2.2.2.2.2.2.2.2.1), (.int .u32 x6_.2.2.2.2.2.2.2.2.2.1), (.int .u32 x6_.2.2.2.2.2.2.2.2.2.2.1)]
 (f69c1 X L b1_ r8_)) M.stuck
def f69c3 (X : XT) (L : LoopI) (x : (Int × Int × Int × Int × Int × Int × Int × Int × Int × Int × Int × Unit) × (SL) × Unit) (b0_ : Nat) (b1_ : Nat) (m5_ : Nat) : M (Value) :=
 M.load (.agg [(.int .i64), (.int .i64), (.int .i64), (.int .i64), (.int .u32), (.int .u32), (.int .u32), (.int .u32), (.int .u32), (.int .u32), (.int .u32)]) 11 (Addr.mk b0_ 0 none) fun (x6_ : Int × Int × Int × Int × Int × Int × Int × Int × Int × Int × Int × Unit) =>
 M.guard (upB ((m5_ : Nat) : Int) x.2.1.2.1)
 (let v7_ : Nat := (Int.toNat ((m5_ : Nat) : Int))
 M.callS (.one (.cell .slice)) (X (.call 96 [(.slice (x.2.1.1.map (·.add (v7_ * 1))) (x.2.1.2.1 - v7_) (x.2.1.2.2 - v7_))])) fun (r8_ : SL) =>
 f69c2 X L b0_ b1_ x6_ r8_)
def f69c4 (X : XT) (L : LoopI) (x : (Int × Int × Int × Int × Int × Int × Int × Int × Int × Int × Int × Unit) × (SL) × Unit) (b0_ : Nat) (go3_ : ((Bool) × Unit) → M (Value)) (x11_ : Int × Int × Int × Int × Int × Int × Int × Int × Int × Int × Int × Unit) : M (Value) :=
 M.callS (.one (.cell .bool)) (X (.call 45 [(.agg ⟨[(.int .i64 x11_.1), (.int .i64 x11_.2.1), (.int .i64 x11_.2.2.1), (.int .i64 x11_.2.2.2.1), (.int .u32 x11_.2.2.2.2.1), (.int .u32 x11_.2.2.2.2.2.1), (.int .u32 x11_.2.2.2.2.2.2.1), (.int .u32 x11_.2.2.2.2.2.2.2.1), (.int .u32 x11_.2.2.2.2.2.2.2.2.1), (.int .u32 x11_.2.2.2.2.2.2.2.2.2.1), (.int .u32 x11_.2.2.2.2.2.2.2.2.2.2.1)]⟩)])) fun (r12_ : Bool) =>
 M.ite (!r12_)
 (go3_ (true, ()))
 (M.load (.cell (.int .i64)) 1 ((Addr.mk b0_ 0 none).add 2) fun (x15_ : Int) =>
 M.callS (.one (.cell (.int .i64))) (X (.call 46 [(.int .i64 x15_)])) fun (r16_ : Int) =>
 go3_ ((!(eqB ((x.2.1.2.1 : Nat) : Int) r16_)), ()))
def f69c5 (X : XT) (L : LoopI) (x : (Int × Int × Int × Int × Int × Int × Int × Int × Int × Int × Int × Unit) × (SL) × Unit) (b0_ : Nat) (b1_ : Nat) : M (Value) :=
 M.join (fun (j2_ : (Bool) × Unit) =>
 M.ite j2_.1
 (M.store (Addr.mk b1_ 0 none) [(.int .i64 0), (.int .i64 0), (.int .i64 0), (.int .i64 0), (.int .u32 0), (.int .u32 0), (.int .u32 0), (.int .u32 0), (.int .u32 0), (.int .u32 0), (.int .u32 0)]
 (f69c0 X L b1_))
 (M.copy 1 (some (((Addr.mk b0_ 0 none).add 4).add (0 * 1))) (6 - 0) (.slice x.2.1.1 x.2.1.2.1 x.2.1.2.2) fun m5_ =>
 f69c3 X L x b0_ b1_ m5_)) fun go3_ =>
 M.load (.agg [(.int .i64), (.int .i64), (.int .i64), (.int .i64), (.int .u32), (.int .u32), (.int .u32), (.int .u32), (.int .u32), (.int .u32), (.int .u32)]) 11 (Addr.mk b0_ 0 none) fun (x11_ : Int × Int × Int × Int × Int × Int × Int × Int × Int × Int × Int × Unit) =>
 f69c4 X L x b0_ go3_ x11_
def f69c6 (X : XT) (L : LoopI) (x : (Int × Int × Int × Int × Int × Int × Int × Int × Int × Int × Int × Unit) × (SL) × Unit) : M (Value) :=
 M.new (.cells (Row.ofList [(.int .i64 x.1.1), (.int .i64 x.1.2.1), (.int .i64 x.1.2.2.1), (.int .i64 x.1.2.2.2.1), (.int .u32 x.1.2.2.2.2.1), (.int .u32 x.1.2.2.2.2.2.1), (.int .u32 x.1.2.2.2.2.2.2.1), (.int .u32 x.1.2.2.2.2.2.2.2.1), (.int .u32 x.1.2.2.2.2.2.2.2.2.1), (.int .u32 x.1.2.2.2.2.2.2.2.2.2.1), (.int .u32 x.1.2.2.2.2.2.2.2.2.2.2.1)]) 76 false (0, 0) false) fun b0_ =>
 M.new (.cells (Row.ofList [(.int .i64 0), (.int .i64 0), (.int .i64 0), (.int .i64 0), (.int .u32 0), (.int .u32 0), (.int .u32 0), (.int .u32 0), (.int .u32 0), (.int .u32 0), (.int .u32 0)]) 76 false (0, 0) false) fun b1_ =>
 M.store ((Addr.mk b0_ 0 none).add 4) [(.int .u32 0), (.int .u32 0), (.int .u32 0), (.int .u32 0), (.int .u32 0), (.int .u32 0)]
 (M.store ((Addr.mk b0_ 0 none).add 10) [(.int .u32 0)]
 (f69c5 X L x b0_ b1_))
def f69 (X : XT) (L : LoopI) (x : (Int × Int × Int × Int × Int × Int × Int × Int × Int × Int × Int × Unit) × (SL) × Unit) : M Value :=
 f69c6 X L x

theorem e69 (X : XT) (L : LoopI) (x : (Int × Int × Int × Int × Int × Int × Int × Int × Int × Int × Int × Unit) × (SL) × Unit) : evBody CC { call := X, loop := L } 69 (shsInj [(.agg [(.int .i64), (.int .i64), (.int .i64), (.int .i64), (.int .u32), (.int .u32), (.int .u32), (.int .u32), (.int .u32), (.int .u32), (.int .u32)]), (.cell .slice)] x) = f69 X L x := by kernel_rfl

/-- (*hayrick/store.Store).Save -/
def f70c0 (X : XT) (L : LoopI) (x : (PA) × (Int × Int × Int × Int × Int × Int × Int × Int × Int × Int × Int × Unit) × (Bool) × Unit) (b0_ : Nat) (x1_ : Int × Int × Int × Int × Int × Int × Int × Int × Int × Int × Int × Unit) : M (Value) :=
 M.callS (.tuple [(.cell (.int .u32)), (.cell (.int .i64))]) (X (.call 67 [(.pointer x.1), (.iface 198 (.agg ⟨[(.int .i64 x1_.1), (.int .i64 x1_.2.1), (.int .i64 x1_.2.2.1), (.int .i64 x1_.2.2.2.1), (.int .u32 x1_.2.2.2.2.1), (.int .u32 x1_.2.2.2.2.2.1), (.int .u32 x1_.2.2.2.2.2.2.1), (.int .u32 x1_.2.2.2.2.2.2.2.1), (.int .u32 x1_.2.2.2.2.2.2.2.2.1), (.int .u32 x1_.2.2.2.2.2.2.2.2.2.1), (.int .u32 x1_.2.2.2.2.2.2.2.2.2.2.1)]⟩)), (.bool x.2.2.1)])) fun (r2_ : (Int) × (Int) × Unit) =>
 M.join (fun (j3_ : Unit) =>
 M.pure (.int .i64 r2_.2.1)) fun go4_ =>
 M.ite (eqB r2_.2.1 0)
 (M.load (.cell (.int .i64)) 1 ((Addr.mk b0_ 0 none).add 0) fun (x6_ : Int) =>
 let v7_ : Int := subW .i64 x6_ 1
 M.deref x.1 fun a8_ =>
 M.guard (inB v7_ 64)
 (M.store ((a8_.add 1).add ((Int.toNat v7_) * 1)) [(.int .u32 r2_.1)]
 (go4_ (()))))
 (go4_ (()))
def f70c1 (X : XT) (L : LoopI) (x : (PA) × (Int × Int × Int × Int × Int × Int × Int × Int × Int × Int × Int × Unit) × (Bool) × Unit) : M (Value) :=
 M.new (.cells (Row.ofList [(.int .i64 x.2.1.1), (.int .i64 x.2.1.2.1), (.int .i64 x.2.1.2.2.1), (.int .i64 x.2.1.2.2.2.1), (.int .u32 x.2.1.2.2.2.2.1), (.int .u32 x.2.1.2.2.2.2.2.1), (.int .u32 x.2.1.2.2.2.2.2.2.1), (.int .u32 x.2.1.2.2.2.2.2.2.2.1), (.int .u32 x.2.1.2.2.2.2.2.2.2.2.1), (.int .u32 x.2.1.2.2.2.2.2.2.2.2.2.1), (.int .u32 x.2.1.2.2.2.2.2.2.2.2.2.2.1)]) 76 false (0, 0) false) fun b0_ =>
 M.load (.agg [(.int .i64), (.int .i64), (.int .i64), (.int .i64), (.int .u32), (.int .u32), (.int .u32), (.int .u32), (.int .u32), (.int .u32), (.int .u32)]) 11 (Addr.mk b0_ 0 none) fun (x1_ : Int × Int × Int × Int × Int × Int × Int × Int × Int × Int × Int × Unit) =>
 f70c0 X L x b0_ x1_
def f70 (X : XT) (L : LoopI) (x : (PA) × (Int × Int × Int × Int × Int × Int × Int × Int × Int × Int × Int × Unit) × (Bool) × Unit) : M Value :=
 f70c1 X L x

theorem e70 (X : XT) (L : LoopI) (x : (PA) × (Int × Int × Int × Int × Int × Int × Int × Int × Int × Int × Int × Unit) × (Bool) × Unit) : evBody CC { call := X, loop := L } 70 (shsInj [(.cell .ptr), (.agg [(.int .i64), (.int .i64), (.int .i64), (.int .i64), (.int .u32), (.int .u32), (.int .u32), (.int .u32), (.int .u32), (.int .u32), (.int .u32)]), (.cell .bool)] x) = f70 X L x := by kernel_rfl

/-- hayrick/hayrickref11.Blocks -/
def f71 (X : XT) (L : LoopI) (x : (Int) × Unit) : M Value :=
 M.ite (ltB x.1 1)
 (M.pure (.int .i64 0))
 (M.guard (!(decide (112 = 0)))
 (let v1_ : Int := IntKind.i64.wrap ((x.1 : Int).tdiv 112)
 M.join (fun (j2_ : (Int) × Unit) =>
 M.pure (.int .i64 j2_.1)) fun go3_ =>
 M.guard (!(decide (112 = 0)))
 (M.ite (ltB 0 ((x.1 : Int).tmod 112))
 (go3_ ((addW .i64 v1_ 1), ()))
 (go3_ (v1_, ())))))

theorem e71 (X : XT) (L : LoopI) (x : (Int) × Unit) : evBody CC { call := X, loop := L } 71 (shsInj [(.cell (.int .i64))] x) = f71 X L x := by kernel_rfl

/-- (*hayrick/hayrickref17.Log).Append -/
def f72c0 (X : XT) (L : LoopI) (x : (PA) × (Int × Bool × Int × Int × Unit) × (SL) × Unit) (go35_ : (Unit) → M (Value)) (a36_ : Addr) (x37_ : SL) (v38_ : Int) (a41_ : Addr) : M (Value) :=
 M.load (.cell (.int .i64)) 1 ((a41_.add 1).add 0) fun (x42_ : Int) =>
 M.callS (.one (.cell (.int .i64))) (X (.call 100 [(.int .i64 x42_)])) fun (r43_ : Int) =>
 M.load (.cell .slice) 1 (a36_.add 5) fun (x44_ : SL) => cond (veqv (.slice x44_.1 x44_.2.1 x44_.2.2) (.slice x37_.1 x37_.2.1 x37_.2.2)) (M.ite (eqB v38_ r43_)
 (M.callS (.one (.cell (.int .i64))) (X (.call 101 [(.pointer x.1)])) fun (r46_ : Int) =>
 M.ite (!(eqB r46_ 0))
 (M.pure (.tuple ⟨[(.int .u32 0), (.int .i64 r46_)]⟩))
 (go35_ (())))
 (go35_ (()))) M.stuck
def f72c1 (X : XT) (L : LoopI) (x : (PA) × (Int × Bool × Int × Int × Unit) × (SL) × Unit) (r16_ : (Int) × (Int) × Unit) (x26_ : SL) (b29_ : Nat) : M (Value) :=
 M.append 61 1 24 x26_.1 x26_.2.1 x26_.2.2 (.slice (some (Addr.mk b29_ 0 none)) 1 1) fun a30_ n31_ c32_ =>
 M.deref x.1 fun a33_ =>
 M.store (a33_.add 6) [(.slice a30_ n31_ c32_)]
 (M.join (fun (j34_ : Unit) =>
 M.pure (.tuple ⟨[(.int .u32 r16_.1), (.int .i64 0)]⟩)) fun go35_ =>
 M.deref x.1 fun a36_ =>
 M.load (.cell .slice) 1 (a36_.add 5) fun (x37_ : SL) =>
 M.deref x.1 fun a39_ =>
 M.load (.cell .ptr) 1 (a39_.add 0) fun (x40_ : PA) =>
 M.deref x40_ fun a41_ =>
 f72c0 X L x go35_ a36_ x37_ ((x37_.2.1 : Nat) : Int) a41_)
def f72c2 (X : XT) (L : LoopI) (x : (PA) × (Int × Bool × Int × Int × Unit) × (SL) × Unit) (r16_ : (Int) × (Int) × Unit) (a21_ : PA) (n22_ : Nat) (c23_ : Nat) (a24_ : Addr) : M (Value) :=
 M.store (a24_.add 5) [(.slice a21_ n22_ c23_)]
 (M.deref x.1 fun a25_ =>
 M.load (.cell .slice) 1 (a25_.add 6) fun (x26_ : SL) =>
 M.callS (.one (.cell .slice)) (X (.call 99 [(.slice x.2.2.1.1 x.2.2.1.2.1 x.2.2.1.2.2)])) fun (r27_ : SL) =>
 M.load (.cell .slice) 1 (a25_.add 6) fun (x28_ : SL) => cond (veqv (.slice x28_.1 x28_.2.1 x28_.2.2) (.slice x26_.1 x26_.2.1 x26_.2.2)) (M.new (.cells (Row.ofList [(.slice r27_.1 r27_.2.1 r27_.2.2)]) 61 false (0, 0) false) fun b29_ =>
 f72c1 X L x r16_ x26_ b29_) M.stuck)
def f72c3 (X : XT) (L : LoopI) (x : (PA) × (Int × Bool × Int × Int × Unit) × (SL) × Unit) (b0_ : Nat) (r16_ : (Int) × (Int) × Unit) (a17_ : Addr) : M (Value) :=
 M.load (.cell .slice) 1 (a17_.add 5) fun (x18_ : SL) =>
 M.load (.agg [(.int .i64), .bool, (.int .i64), (.int .i64)]) 4 (Addr.mk b0_ 0 none) fun (x19_ : Int × Bool × Int × Int × Unit) =>
 M.new (.cells (Row.ofList [(.int .i64 x19_.1), (.bool x19_.2.1), (.int .i64 x19_.2.2.1), (.int .i64 x19_.2.2.2.1)]) 143 false (0, 0) false) fun b20_ =>
 M.append 143 4 32 x18_.1 x18_.2.1 x18_.2.2 (.slice (some (Addr.mk b20_ 0 none)) 1 1) fun a21_ n22_ c23_ =>
 M.deref x.1 fun a24_ =>
 f72c2 X L x r16_ a21_ n22_ c23_ a24_
def f72c4 (X : XT) (L : LoopI) (x : (PA) × (Int × Bool × Int × Int × Unit) × (SL) × Unit) (b0_ : Nat) (a7_ : Addr) : M (Value) :=
 M.load (.cell .ptr) 1 (a7_.add 0) fun (x8_ : PA) =>
 M.deref x8_ fun a9_ =>
 M.load (.cell (.int .i64)) 1 ((a9_.add 1).add 0) fun (x10_ : Int) =>
 M.deref x.1 fun a11_ =>
 M.load (.cell (.int .i64)) 1 (a11_.add 4) fun (x12_ : Int) =>
 M.deref x.1 fun a13_ =>
 M.load (.cell .slice) 1 (a13_.add 5) fun (x14_ : SL) =>
 M.callS (.tuple [(.cell (.int .u32)), (.cell (.int .i64))]) (X (.call 98 [(.int .i64 x10_), (.int .i64 x12_), (.int .i64 ((x14_.2.1 : Nat) : Int))])) fun (r16_ : (Int) × (Int) × Unit) =>
 M.deref x.1 fun a17_ =>
 f72c3 X L x b0_ r16_ a17_
def f72c5 (X : XT) (L : LoopI) (x : (PA) × (Int × Bool × Int × Int × Unit) × (SL) × Unit) (s51_ : (Int) × Unit) : M (((Int) × Unit) ⊕ (((Int) × Unit) ⊕ (Unit))) :=
 M.join (fun (j52_ : (Bool) × Unit) =>
 M.ite j52_.1
 (M.pure (.inl ((addW .i64 s51_.1 1), ())))
 (M.pure (.inr (.inl (s51_.1, ()))))) fun go53_ =>
 M.deref x.1 fun a55_ =>
 M.load (.cell .slice) 1 (a55_.add 3) fun (x56_ : SL) =>
 M.ite (ltB s51_.1 ((x56_.2.1 : Nat) : Int))
 (M.deref x.1 fun a59_ =>
 M.load (.cell .slice) 1 (a59_.add 3) fun (x60_ : SL) =>
 M.guard (inB s51_.1 x60_.2.1)
 (M.deref x60_.1 fun a61_ =>
 M.load (.cell .bool) 1 (a61_.add ((Int.toNat s51_.1) * 1)) fun (x62_ : Bool) =>
 go53_ ((!x62_), ())))
 (go53_ (false, ()))
def f72c6 (X : XT) (L : LoopI) (x : (PA) × (Int × Bool × Int × Int × Unit) × (SL) × Unit) (go6_ : (Unit) → M (Value)) (j64_ : (Int) × Unit) (v68_ : Bool) : M (Value) :=
 M.ite v68_
 (M.pure (.tuple ⟨[(.int .u32 0), (.int .i64 7)]⟩))
 (M.deref x.1 fun a69_ =>
 M.store (a69_.add 4) [(.int .i64 j64_.1)]
 (M.deref x.1 fun a70_ =>
 M.load (.cell .slice) 1 (a70_.add 3) fun (x71_ : SL) =>
 M.guard (inB j64_.1 x71_.2.1)
 (M.deref x71_.1 fun a72_ =>
 M.store (a72_.add ((Int.toNat j64_.1) * 1)) [(.bool false)]
 (M.deref x.1 fun a73_ =>
 M.load (.cell .slice) 1 (a73_.add 2) fun (x74_ : SL) =>
 M.guard (inB j64_.1 x74_.2.1)
 (M.deref x74_.1 fun a75_ =>
 M.store (a75_.add ((Int.toNat j64_.1) * 1)) [(.int .u64 0)]
 (go6_ (())))))))
def f72c7 (X : XT) (L : LoopI) (x : (PA) × (Int × Bool × Int × Int × Unit) × (SL) × Unit) (b0_ : Nat) : M (Value) :=
 M.join (fun (j5_ : Unit) =>
 M.deref x.1 fun a7_ =>
 f72c4 X L x b0_ a7_) fun go6_ =>
 M.deref x.1 fun a48_ =>
 M.load (.cell (.int .i64)) 1 (a48_.add 4) fun (x49_ : Int) =>
 M.ite (ltB x49_ 0)
 (M.bind (L (σ := (Int) × Unit) (ρ := ((Int) × Unit) ⊕ (Unit)) (fun s51_ =>
 f72c5 X L x s51_) (0, ())) <| M.sum (fun (j64_ : (Int) × Unit) =>
 M.deref x.1 fun a65_ =>
 M.load (.cell .slice) 1 (a65_.add 3) fun (x66_ : SL) =>
 f72c6 X L x go6_ j64_ (eqB j64_.1 ((x66_.2.1 : Nat) : Int))) (fun _ => M.stuck))
 (go6_ (()))
def f72c8 (X : XT) (L : LoopI) (x : (PA) × (Int × Bool × Int × Int × Unit) × (SL) × Unit) (b0_ : Nat) : M (Value) :=
 M.join (fun (j3_ : (Bool) × Unit) =>
 M.ite j3_.1
 (M.pure (.tuple ⟨[(.int .u32 0), (.int .i64 1)]⟩))
 (f72c7 X L x b0_)) fun go4_ =>
 M.load (.agg [(.int .i64), .bool, (.int .i64), (.int .i64)]) 4 (Addr.mk b0_ 0 none) fun (x76_ : Int × Bool × Int × Int × Unit) =>
 M.callS (.one (.cell .bool)) (X (.call 97 [(.agg ⟨[(.int .i64 x76_.1), (.bool x76_.2.1), (.int .i64 x76_.2.2.1), (.int .i64 x76_.2.2.2.1)]⟩)])) fun (r77_ : Bool) =>
 M.ite (!r77_)
 (go4_ (true, ()))
 (go4_ ((!(eqB ((x.2.2.1.2.1 : Nat) : Int) 112)), ()))
def f72 (X : XT) (L : LoopI) (x : (PA) × (Int × Bool × Int × Int × Unit) × (SL) × Unit) : M Value :=
 M.new (.cells (Row.ofList [(.int .i64 x.2.1.1), (.bool x.2.1.2.1), (.int .i64 x.2.1.2.2.1), (.int .i64 x.2.1.2.2.2.1)]) 143 false (0, 0) false) fun b0_ =>
 M.deref x.1 fun a1_ =>
 M.load (.cell .bool) 1 (a1_.add 7) fun (x2_ : Bool) =>
 M.ite x2_
 (M.pure (.tuple ⟨[(.int .u32 0), (.int .i64 20)]⟩))
 (f72c8 X L x b0_)

theorem e72 (X : XT) (L : LoopI) (x : (PA) × (Int × Bool × Int × Int × Unit) × (SL) × Unit) : evBody CC { call := X, loop := L } 72 (shsInj [(.cell .ptr), (.agg [(.int .i64), .bool, (.int .i64), (.int .i64)]), (.cell .slice)] x) = f72 X L x := by kernel_rfl

/-- (*hayrick/hayrickref18.Store).Save -/
def f74c0 (X : XT) (L : LoopI) (x : (PA) × (Int × Int × Int × Int × Int × Int × Int × Int × Int × Int × Int × Unit) × (Bool) × Unit) (b0_ : Nat) (r2_ : (SL) × (Int) × Unit) (x5_ : PA) (x6_ : Int) : M (Value) :=
 M.callS (.tuple [(.cell (.int .u32)), (.cell (.int .i64))]) (X (.call 72 [(.pointer x5_), (.agg ⟨[(.int .i64 3), (.bool x.2.2.1), (.int .i64 x6_), (.int .i64 0)]⟩), (.slice r2_.1.1 r2_.1.2.1 r2_.1.2.2)])) fun (r7_ : (Int) × (Int) × Unit) =>
 M.ite (!(eqB r7_.2.1 0))
 (M.pure (.int .i64 r7_.2.1))
 (M.load (.cell (.int .i64)) 1 ((Addr.mk b0_ 0 none).add 0) fun (x9_ : Int) =>
 let v10_ : Int := subW .i64 x9_ 1
 M.deref x.1 fun a11_ =>
 M.guard (inB v10_ 64)
 (M.store ((a11_.add 1).add ((Int.toNat v10_) * 1)) [(.int .u32 r7_.1)]
 (M.pure (.int .i64 0))))
def f74c1 (X : XT) (L : LoopI) (x : (PA) × (Int × Int × Int × Int × Int × Int × Int × Int × Int × Int × Int × Unit) × (Bool) × Unit) (b0_ : Nat) (x1_ : Int × Int × Int × Int × Int × Int × Int × Int × Int × Int × Int × Unit) : M (Value) :=
 M.callS (.tuple [(.cell .slice), (.cell (.int .i64))]) (X (.call 103 [(.agg ⟨[(.int .i64 x1_.1), (.int .i64 x1_.2.1), (.int .i64 x1_.2.2.1), (.int .i64 x1_.2.2.2.1), (.int .u32 x1_.2.2.2.2.1), (.int .u32 x1_.2.2.2.2.2.1), (.int .u32 x1_.2.2.2.2.2.2.1), (.int .u32 x1_.2.2.2.2.2.2.2.1), (.int .u32 x1_.2.2.2.2.2.2.2.2.1), (.int .u32 x1_.2.2.2.2.2.2.2.2.2.1), (.int .u32 x1_.2.2.2.2.2.2.2.2.2.2.1)]⟩)])) fun (r2_ : (SL) × (Int) × Unit) =>
 M.ite (!(eqB r2_.2.1 0))
 (M.pure (.int .i64 r2_.2.1))
 (M.deref x.1 fun a4_ =>
 M.load (.cell .ptr) 1 (a4_.add 0) fun (x5_ : PA) =>
 M.load (.cell (.int .i64)) 1 ((Addr.mk b0_ 0 none).add 0) fun (x6_ : Int) =>
 f74c0 X L x b0_ r2_ x5_ x6_)
def f74c2 (X : XT) (L : LoopI) (x : (PA) × (Int × Int × Int × Int × Int × Int × Int × Int × Int × Int × Int × Unit) × (Bool) × Unit) : M (Value) :=
 M.new (.cells (Row.ofList [(.int .i64 x.2.1.1), (.int .i64 x.2.1.2.1), (.int .i64 x.2.1.2.2.1), (.int .i64 x.2.1.2.2.2.1), (.int .u32 x.2.1.2.2.2.2.1), (.int .u32 x.2.1.2.2.2.2.2.1), (.int .u32 x.2.1.2.2.2.2.2.2.1), (.int .u32 x.2.1.2.2.2.2.2.2.2.1), (.int .u32 x.2.1.2.2.2.2.2.2.2.2.1), (.int .u32 x.2.1.2.2.2.2.2.2.2.2.2.1), (.int .u32 x.2.1.2.2.2.2.2.2.2.2.2.2.1)]) 76 false (0, 0) false) fun b0_ =>
 M.load (.agg [(.int .i64), (.int .i64), (.int .i64), (.int .i64), (.int .u32), (.int .u32), (.int .u32), (.int .u32), (.int .u32), (.int .u32), (.int .u32)]) 11 (Addr.mk b0_ 0 none) fun (x1_ : Int × Int × Int × Int × Int × Int × Int × Int × Int × Int × Int × Unit) =>
 f74c1 X L x b0_ x1_
def f74 (X : XT) (L : LoopI) (x : (PA) × (Int × Int × Int × Int × Int × Int × Int × Int × Int × Int × Int × Unit) × (Bool) × Unit) : M Value :=
 f74c2 X L x

theorem e74 (X : XT) (L : LoopI) (x : (PA) × (Int × Int × Int × Int × Int × Int × Int × Int × Int × Int × Int × Unit) × (Bool) × Unit) : evBody CC { call := X, loop := L } 74 (shsInj [(.cell .ptr), (.agg [(.int .i64), (.int .i64), (.int .i64), (.int .i64), (.int .u32), (.int .u32), (.int .u32), (.int .u32), (.int .u32), (.int .u32), (.int .u32)]), (.cell .bool)] x) = f74 X L x := by kernel_rfl

/-- hayrick/entry.May -/
def f75c0 (X : XT) (L : LoopI) (x : (SL) × Unit) (s3_ : (Int) × Unit) (b7_ : Nat) (go9_ : ((Bool) × Unit) → M (((Int) × Unit) ⊕ ((Unit) ⊕ (((Bool) × Unit) ⊕ (Unit))))) (x14_ : ByteArray) : M (((Int) × Unit) ⊕ ((Unit) ⊕ (((Bool) × Unit) ⊕ (Unit)))) :=
 M.callS (.one (.cell .bool)) (X (.call 14 [(.string x14_)])) fun (r15_ : Bool) =>
 M.ite (!r15_)
 (go9_ (true, ()))
 (M.ite (ltB 0 s3_.1)
 (let v18_ : Int := subW .i64 s3_.1 1
 M.guard (inB v18_ x.1.2.1)
 (M.deref x.1.1 fun a19_ =>
 M.load (.cell .string) 1 ((a19_.add ((Int.toNat v18_) * 2)).add 1) fun (x20_ : ByteArray) =>
 M.load (.cell .string) 1 ((Addr.mk b7_ 0 none).add 1) fun (x21_ : ByteArray) =>
 M.callS (.one (.cell (.int .i64))) (X (.call 81 [(.string x20_), (.string x21_)])) fun (r22_ : Int) =>
 go9_ ((leB 0 r22_), ())))
 (go9_ (false, ())))
def f75c1 (X : XT) (L : LoopI) (x : (SL) × Unit) (s3_ : (Int) × Unit) (x6_ : Int × ByteArray × Unit) (b7_ : Nat) : M (((Int) × Unit) ⊕ ((Unit) ⊕ (((Bool) × Unit) ⊕ (Unit)))) :=
 M.store (Addr.mk b7_ 0 none) [(.int .i64 x6_.1), (.string x6_.2.1)]
 (M.join (fun (j8_ : (Bool) × Unit) =>
 M.ite j8_.1
 (M.pure (.inr (.inr (.inl (false, ())))))
 (M.pure (.inl ((addW .i64 s3_.1 1), ())))) fun go9_ =>
 M.load (.cell (.int .i64)) 1 ((Addr.mk b7_ 0 none).add 0) fun (x11_ : Int) =>
 M.callS (.one (.cell .bool)) (X (.call 104 [(.int .i64 x11_)])) fun (r12_ : Bool) =>
 M.ite (!r12_)
 (go9_ (true, ()))
 (M.load (.cell .string) 1 ((Addr.mk b7_ 0 none).add 1) fun (x14_ : ByteArray) =>
 f75c0 X L x s3_ b7_ go9_ x14_))
def f75c2 (X : XT) (L : LoopI) (x : (SL) × Unit) (v2_ : Int) : M (Value) :=
 M.bind (L (σ := (Int) × Unit) (ρ := (Unit) ⊕ (((Bool) × Unit) ⊕ (Unit))) (fun s3_ =>
 M.ite (ltB s3_.1 v2_)
 (M.guard (inB s3_.1 x.1.2.1)
 (M.deref x.1.1 fun a5_ =>
 M.load (.agg [(.int .i64), .string]) 2 (a5_.add ((Int.toNat s3_.1) * 2)) fun (x6_ : Int × ByteArray × Unit) =>
 M.new (.cells (Row.ofList [(.int .i64 0), (.string st0)]) 47 false (0, 0) false) fun b7_ =>
 f75c1 X L x s3_ x6_ b7_))
 (M.pure (.inr (.inl (()))))) (0, ())) <| M.sum (fun (j24_ : Unit) =>
 M.pure (.bool true)) (M.sum (fun (j25_ : (Bool) × Unit) =>
 M.pure (.bool j25_.1)) (fun _ => M.stuck))
def f75 (X : XT) (L : LoopI) (x : (SL) × Unit) : M Value :=
 M.ite (ltB 64 ((x.1.2.1 : Nat) : Int))
 (M.pure (.bool false))
 (f75c2 X L x ((x.1.2.1 : Nat) : Int))

theorem e75 (X : XT) (L : LoopI) (x : (SL) × Unit) : evBody CC { call := X, loop := L } 75 (shsInj [(.cell .slice)] x) = f75 X L x := by kernel_rfl

/-- hayrick/hayrickref12.May -/
def f76c0 (X : XT) (L : LoopI) (x : (SL) × Unit) (s2_ : (Int) × Unit) (go8_ : ((Bool) × Unit) → M (((Int) × Unit) ⊕ ((Unit) ⊕ (((Bool) × Unit) ⊕ (Unit))))) : M (((Int) × Unit) ⊕ ((Unit) ⊕ (((Bool) × Unit) ⊕ (Unit)))) :=
 M.ite (ltB 0 s2_.1)
 (let v11_ : Int := subW .i64 s2_.1 1
 M.guard (inB v11_ x.1.2.1)
 (M.deref x.1.1 fun a12_ =>
 M.load (.cell .string) 1 ((a12_.add ((Int.toNat v11_) * 2)).add 1) fun (x13_ : ByteArray) =>
 M.guard (inB s2_.1 x.1.2.1)
 (M.deref x.1.1 fun a14_ =>
 M.load (.cell .string) 1 ((a14_.add ((Int.toNat s2_.1) * 2)).add 1) fun (x15_ : ByteArray) =>
 M.callS (.one (.cell (.int .i64))) (X (.call 105 [(.string x13_), (.string x15_)])) fun (r16_ : Int) =>
 go8_ ((!(eqB r16_ (-1))), ()))))
 (go8_ (false, ()))
def f76c1 (X : XT) (L : LoopI) (x : (SL) × Unit) (s2_ : (Int) × Unit) (go6_ : ((Bool) × Unit) → M (((Int) × Unit) ⊕ ((Unit) ⊕ (((Bool) × Unit) ⊕ (Unit))))) (a18_ : Addr) : M (((Int) × Unit) ⊕ ((Unit) ⊕ (((Bool) × Unit) ⊕ (Unit)))) :=
 M.load (.cell (.int .i64)) 1 ((a18_.add ((Int.toNat s2_.1) * 2)).add 0) fun (x19_ : Int) =>
 M.ite (ltB x19_ 1)
 (go6_ (true, ()))
 (M.guard (inB s2_.1 x.1.2.1)
 (M.deref x.1.1 fun a21_ =>
 M.load (.cell (.int .i64)) 1 ((a21_.add ((Int.toNat s2_.1) * 2)).add 0) fun (x22_ : Int) =>
 M.ite (ltB 64 x22_)
 (go6_ (true, ()))
 (M.guard (inB s2_.1 x.1.2.1)
 (M.deref x.1.1 fun a24_ =>
 M.load (.cell .string) 1 ((a24_.add ((Int.toNat s2_.1) * 2)).add 1) fun (x25_ : ByteArray) =>
 M.callS (.one (.cell .bool)) (X (.call 18 [(.string x25_)])) fun (r26_ : Bool) =>
 go6_ ((!r26_), ())))))
def f76c2 (X : XT) (L : LoopI) (x : (SL) × Unit) : M (Value) :=
 M.bind (L (σ := (Int) × Unit) (ρ := (Unit) ⊕ (((Bool) × Unit) ⊕ (Unit))) (fun s2_ =>
 M.ite (ltB s2_.1 ((x.1.2.1 : Nat) : Int))
 (M.join (fun (j5_ : (Bool) × Unit) =>
 M.ite j5_.1
 (M.pure (.inr (.inr (.inl (false, ())))))
 (M.join (fun (j7_ : (Bool) × Unit) =>
 M.ite j7_.1
 (M.pure (.inr (.inr (.inl (false, ())))))
 (M.pure (.inl ((addW .i64 s2_.1 1), ())))) fun go8_ =>
 f76c0 X L x s2_ go8_)) fun go6_ =>
 M.guard (inB s2_.1 x.1.2.1)
 (M.deref x.1.1 fun a18_ =>
 f76c1 X L x s2_ go6_ a18_))
 (M.pure (.inr (.inl (()))))) (0, ())) <| M.sum (fun (j28_ : Unit) =>
 M.pure (.bool true)) (M.sum (fun (j29_ : (Bool) × Unit) =>
 M.pure (.bool j29_.1)) (fun _ => M.stuck))
def f76 (X : XT) (L : LoopI) (x : (SL) × Unit) : M Value :=
 M.ite (ltB 64 ((x.1.2.1 : Nat) : Int))
 (M.pure (.bool false))
 (f76c2 X L x)

theorem e76 (X : XT) (L : LoopI) (x : (SL) × Unit) : evBody CC { call := X, loop := L } 76 (shsInj [(.cell .slice)] x) = f76 X L x := by kernel_rfl

/-- hayrick/files.Read -/
def f77c0 (X : XT) (L : LoopI) (x : (PA) × (Int) × (Int) × (Int) × Unit) (b0_ : Nat) (b1_ : Nat) (b2_ : Nat) (b3_ : Nat) (x4_ : PA) : M (Value) :=
 M.callS (.one (.cell (.int .i64))) (X (.call 106 [(.pointer x4_), (.int .i64 x.2.1), (.func (.func 107) ⟨[]⟩ ⟨[(.pointer (some (Addr.mk b1_ 0 none))), (.pointer (some (Addr.mk b2_ 0 none))), (.pointer (some (Addr.mk b0_ 0 none))), (.pointer (some (Addr.mk b3_ 0 none)))]⟩)])) fun (r5_ : Int) =>
 M.load (.cell .slice) 1 (Addr.mk b3_ 0 none) fun (x6_ : SL) =>
 M.store (Addr.mk b3_ 0 none) [(.slice x6_.1 x6_.2.1 x6_.2.2)]
 (M.load (.cell .slice) 1 (Addr.mk b3_ 0 none) fun (x7_ : SL) =>
 M.pure (.tuple ⟨[(.slice x7_.1 x7_.2.1 x7_.2.2), (.int .i64 r5_)]⟩))
def f77 (X : XT) (L : LoopI) (x : (PA) × (Int) × (Int) × (Int) × Unit) : M Value :=
 M.new (.cells (Row.ofList [(.pointer x.1)]) 42 false (0, 0) false) fun b0_ =>
 M.new (.cells (Row.ofList [(.int .i64 x.2.2.1)]) 3 false (0, 0) false) fun b1_ =>
 M.new (.cells (Row.ofList [(.int .i64 x.2.2.2.1)]) 3 false (0, 0) false) fun b2_ =>
 M.new (.cells (Row.ofList [(.slice none 0 0)]) 61 false (0, 0) false) fun b3_ =>
 M.load (.cell .ptr) 1 (Addr.mk b0_ 0 none) fun (x4_ : PA) =>
 f77c0 X L x b0_ b1_ b2_ b3_ x4_

theorem e77 (X : XT) (L : LoopI) (x : (PA) × (Int) × (Int) × (Int) × Unit) : evBody CC { call := X, loop := L } 77 (shsInj [(.cell .ptr), (.cell (.int .i64)), (.cell (.int .i64)), (.cell (.int .i64))] x) = f77 X L x := by kernel_rfl

/-- slices.IndexFunc[[]hayrick/api.Entry,hayrick/api.Entry] -/
def f79c0 (X : XT) (L : LoopI) (x : (SL) × (Value) × Unit) (v0_ : Int) : M (Value) :=
 M.bind (L (σ := (Int) × Unit) (ρ := (Unit) ⊕ (((Int) × Unit) ⊕ (Unit))) (fun s1_ =>
 M.ite (ltB s1_.1 v0_)
 (M.guard (inB s1_.1 x.1.2.1)
 (M.deref x.1.1 fun a3_ =>
 M.load (.agg [(.int .i64), .string]) 2 (a3_.add ((Int.toNat s1_.1) * 2)) fun (x4_ : Int × ByteArray × Unit) =>
 callV CC ⟨X, L⟩ x.2.1 [(.agg ⟨[(.int .i64 x4_.1), (.string x4_.2.1)]⟩)] fun w6_ => M.need (RSh.prj (.one (.cell .bool)) w6_) fun (r5_ : Bool) =>
 M.ite r5_
 (M.pure (.inr (.inr (.inl (s1_.1, ())))))
 (M.pure (.inl ((addW .i64 s1_.1 1), ())))))
 (M.pure (.inr (.inl (()))))) (0, ())) <| M.sum (fun (j8_ : Unit) =>
 M.pure (.int .i64 (-1))) (M.sum (fun (j9_ : (Int) × Unit) =>
 M.pure (.int .i64 j9_.1)) (fun _ => M.stuck))
def f79 (X : XT) (L : LoopI) (x : (SL) × (Value) × Unit) : M Value :=
 f79c0 X L x ((x.1.2.1 : Nat) : Int)

theorem e79 (X : XT) (L : LoopI) (x : (SL) × (Value) × Unit) : evBody CC { call := X, loop := L } 79 (shsInj [(.cell .slice), (.cell .val)] x) = f79 X L x := by kernel_rfl

/-- hayrick/entry.Find$1 -/
def f80 (X : XT) (L : LoopI) (x : (Int × ByteArray × Unit) × (PA) × Unit) : M Value :=
 M.new (.cells (Row.ofList [(.int .i64 x.1.1), (.string x.1.2.1)]) 47 false (0, 0) false) fun b0_ =>
 M.load (.cell .string) 1 ((Addr.mk b0_ 0 none).add 1) fun (x1_ : ByteArray) =>
 M.deref x.2.1 fun a2_ =>
 M.load (.cell .string) 1 a2_ fun (x3_ : ByteArray) =>
 M.callS (.one (.cell (.int .i64))) (X (.call 81 [(.string x1_), (.string x3_)])) fun (r4_ : Int) =>
 M.pure (.bool (leB 0 r4_))

theorem e80 (X : XT) (L : LoopI) (x : (Int × ByteArray × Unit) × (PA) × Unit) : evBody CC { call := X, loop := L } 80 (shsInj [(.agg [(.int .i64), .string]), (.cell .ptr)] x) = f80 X L x := by kernel_rfl

/-- hayrick/names.Compare -/
def f81 (X : XT) (L : LoopI) (x : (ByteArray) × (ByteArray) × Unit) : M Value :=
 M.callS (.one (.cell .slice)) (X (.call 113 [(.string x.1)])) fun (r0_ : SL) =>
 M.callS (.one (.cell .slice)) (X (.call 113 [(.string x.2.1)])) fun (r1_ : SL) =>
 M.callS (.one (.cell (.int .i64))) (X (.call 112 [(.slice r0_.1 r0_.2.1 r0_.2.2), (.slice r1_.1 r1_.2.1 r1_.2.2)])) fun (r2_ : Int) =>
 M.ite (!(eqB r2_ 0))
 (M.pure (.int .i64 r2_))
 (M.callS (.one (.cell (.int .i64))) (X (.call 114 [(.string x.1), (.string x.2.1)])) fun (r4_ : Int) =>
 M.pure (.int .i64 r4_))

theorem e81 (X : XT) (L : LoopI) (x : (ByteArray) × (ByteArray) × Unit) : evBody CC { call := X, loop := L } 81 (shsInj [(.cell .string), (.cell .string)] x) = f81 X L x := by kernel_rfl

/-- (*hayrick/store.Store).Load -/
def f82c0 (X : XT) (L : LoopI) (b0_ : Nat) (r1_ : Int) : M (Value) :=
 M.load (.agg [(.int .i64), (.int .i64), (.int .i64), (.int .i64), (.int .u32), (.int .u32), (.int .u32), (.int .u32), (.int .u32), (.int .u32), (.int .u32)]) 11 (Addr.mk b0_ 0 none) fun (x3_ : Int × Int × Int × Int × Int × Int × Int × Int × Int × Int × Int × Unit) =>
 M.pure (.tuple ⟨[(.agg ⟨[(.int .i64 x3_.1), (.int .i64 x3_.2.1), (.int .i64 x3_.2.2.1), (.int .i64 x3_.2.2.2.1), (.int .u32 x3_.2.2.2.2.1), (.int .u32 x3_.2.2.2.2.2.1), (.int .u32 x3_.2.2.2.2.2.2.1), (.int .u32 x3_.2.2.2.2.2.2.2.1), (.int .u32 x3_.2.2.2.2.2.2.2.2.1), (.int .u32 x3_.2.2.2.2.2.2.2.2.2.1), (.int .u32 x3_.2.2.2.2.2.2.2.2.2.2.1)]⟩), (.int .i64 r1_)]⟩)
def f82c1 (X : XT) (L : LoopI) (b0_ : Nat) : M (Value) :=
 M.load (.agg [(.int .i64), (.int .i64), (.int .i64), (.int .i64), (.int .u32), (.int .u32), (.int .u32), (.int .u32), (.int .u32), (.int .u32), (.int .u32)]) 11 (Addr.mk b0_ 0 none) fun (x8_ : Int × Int × Int × Int × Int × Int × Int × Int × Int × Int × Int × Unit) =>
 M.pure (.tuple ⟨[(.agg ⟨[(.int .i64 x8_.1), (.int .i64 x8_.2.1), (.int .i64 x8_.2.2.1), (.int .i64 x8_.2.2.2.1), (.int .u32 x8_.2.2.2.2.1), (.int .u32 x8_.2.2.2.2.2.1), (.int .u32 x8_.2.2.2.2.2.2.1), (.int .u32 x8_.2.2.2.2.2.2.2.1), (.int .u32 x8_.2.2.2.2.2.2.2.2.1), (.int .u32 x8_.2.2.2.2.2.2.2.2.2.1), (.int .u32 x8_.2.2.2.2.2.2.2.2.2.2.1)]⟩), (.int .i64 6)]⟩)
def f82c2 (X : XT) (L : LoopI) (b0_ : Nat) (r11_ : (SL) × (Int) × Unit) : M (Value) :=
 M.load (.agg [(.int .i64), (.int .i64), (.int .i64), (.int .i64), (.int .u32), (.int .u32), (.int .u32), (.int .u32), (.int .u32), (.int .u32), (.int .u32)]) 11 (Addr.mk b0_ 0 none) fun (x13_ : Int × Int × Int × Int × Int × Int × Int × Int × Int × Int × Int × Unit) =>
 M.pure (.tuple ⟨[(.agg ⟨[(.int .i64 x13_.1), (.int .i64 x13_.2.1), (.int .i64 x13_.2.2.1), (.int .i64 x13_.2.2.2.1), (.int .u32 x13_.2.2.2.2.1), (.int .u32 x13_.2.2.2.2.2.1), (.int .u32 x13_.2.2.2.2.2.2.1), (.int .u32 x13_.2.2.2.2.2.2.2.1), (.int .u32 x13_.2.2.2.2.2.2.2.2.1), (.int .u32 x13_.2.2.2.2.2.2.2.2.2.1), (.int .u32 x13_.2.2.2.2.2.2.2.2.2.2.1)]⟩), (.int .i64 r11_.2.1)]⟩)
def f82c3 (X : XT) (L : LoopI) (b0_ : Nat) : M (Value) :=
 M.load (.agg [(.int .i64), (.int .i64), (.int .i64), (.int .i64), (.int .u32), (.int .u32), (.int .u32), (.int .u32), (.int .u32), (.int .u32), (.int .u32)]) 11 (Addr.mk b0_ 0 none) fun (x18_ : Int × Int × Int × Int × Int × Int × Int × Int × Int × Int × Int × Unit) =>
 M.pure (.tuple ⟨[(.agg ⟨[(.int .i64 x18_.1), (.int .i64 x18_.2.1), (.int .i64 x18_.2.2.1), (.int .i64 x18_.2.2.2.1), (.int .u32 x18_.2.2.2.2.1), (.int .u32 x18_.2.2.2.2.2.1), (.int .u32 x18_.2.2.2.2.2.2.1), (.int .u32 x18_.2.2.2.2.2.2.2.1), (.int .u32 x18_.2.2.2.2.2.2.2.2.1), (.int .u32 x18_.2.2.2.2.2.2.2.2.2.1), (.int .u32 x18_.2.2.2.2.2.2.2.2.2.2.1)]⟩), (.int .i64 5)]⟩)
def f82c4 (X : XT) (L : LoopI) (b0_ : Nat) : M (Value) :=
 M.load (.agg [(.int .i64), (.int .i64), (.int .i64), (.int .i64), (.int .u32), (.int .u32), (.int .u32), (.int .u32), (.int .u32), (.int .u32), (.int .u32)]) 11 (Addr.mk b0_ 0 none) fun (x20_ : Int × Int × Int × Int × Int × Int × Int × Int × Int × Int × Int × Unit) =>
 M.pure (.tuple ⟨[(.agg ⟨[(.int .i64 x20_.1), (.int .i64 x20_.2.1), (.int .i64 x20_.2.2.1), (.int .i64 x20_.2.2.2.1), (.int .u32 x20_.2.2.2.2.1), (.int .u32 x20_.2.2.2.2.2.1), (.int .u32 x20_.2.2.2.2.2.2.1), (.int .u32 x20_.2.2.2.2.2.2.2.1), (.int .u32 x20_.2.2.2.2.2.2.2.2.1), (.int .u32 x20_.2.2.2.2.2.2.2.2.2.1), (.int .u32 x20_.2.2.2.2.2.2.2.2.2.2.1)]⟩), (.int .i64 0)]⟩)
def f82c5 (X : XT) (L : LoopI) (b0_ : Nat) (b15_ : Nat) : M (Value) :=
 M.load (.agg [(.int .i64), (.int .i64), (.int .i64), (.int .i64), (.int .u32), (.int .u32), (.int .u32), (.int .u32), (.int .u32), (.int .u32), (.int .u32)]) 11 (Addr.mk b15_ 0 none) fun (x19_ : Int × Int × Int × Int × Int × Int × Int × Int × Int × Int × Int × Unit) =>
 M.store (Addr.mk b0_ 0 none) [(.int .i64 x19_.1), (.int .i64 x19_.2.1), (.int .i64 x19_.2.2.1), (.int .i64 x19_.2.2.2.1), (.int .u32 x19_.2.2.2.2.1), (.int .u32 x19_.2.2.2.2.2.1), (.int .u32 x19_.2.2.2.2.2.2.1), (.int .u32 x19_.2.2.2.2.2.2.2.1), (.int .u32 x19_.2.2.2.2.2.2.2.2.1), (.int .u32 x19_.2.2.2.2.2.2.2.2.2.1), (.int .u32 x19_.2.2.2.2.2.2.2.2.2.2.1)]
 (f82c4 X L b0_)
def f82c6 (X : XT) (L : LoopI) (x : (PA) × (Int) × Unit) (b0_ : Nat) (r14_ : (Int × Int × Int × Int × Int × Int × Int × Int × Int × Int × Int × Unit) × (Int) × Unit) (b15_ : Nat) : M (Value) :=
 M.store (Addr.mk b15_ 0 none) [(.int .i64 r14_.1.1), (.int .i64 r14_.1.2.1), (.int .i64 r14_.1.2.2.1), (.int .i64 r14_.1.2.2.2.1), (.int .u32 r14_.1.2.2.2.2.1), (.int .u32 r14_.1.2.2.2.2.2.1), (.int .u32 r14_.1.2.2.2.2.2.2.1), (.int .u32 r14_.1.2.2.2.2.2.2.2.1), (.int .u32 r14_.1.2.2.2.2.2.2.2.2.1), (.int .u32 r14_.1.2.2.2.2.2.2.2.2.2.1), (.int .u32 r14_.1.2.2.2.2.2.2.2.2.2.2.1)]
 (M.join (fun (j16_ : (Bool) × Unit) =>
 M.ite j16_.1
 (M.store (Addr.mk b0_ 0 none) [(.int .i64 0), (.int .i64 0), (.int .i64 0), (.int .i64 0), (.int .u32 0), (.int .u32 0), (.int .u32 0), (.int .u32 0), (.int .u32 0), (.int .u32 0), (.int .u32 0)]
 (f82c3 X L b0_))
 (f82c5 X L b0_ b15_)) fun go17_ =>
 M.ite (!(eqB r14_.2.1 0))
 (go17_ (true, ()))
 (M.load (.cell (.int .i64)) 1 ((Addr.mk b15_ 0 none).add 0) fun (x22_ : Int) =>
 go17_ ((!(eqB x22_ x.2.1)), ())))
def f82c7 (X : XT) (L : LoopI) (x : (PA) × (Int) × Unit) (b0_ : Nat) (r11_ : (SL) × (Int) × Unit) : M (Value) :=
 M.callS (.tuple [(.agg [(.int .i64), (.int .i64), (.int .i64), (.int .i64), (.int .u32), (.int .u32), (.int .u32), (.int .u32), (.int .u32), (.int .u32), (.int .u32)]), (.cell (.int .i64))]) (X (.call 116 [(.slice r11_.1.1 r11_.1.2.1 r11_.1.2.2)])) fun (r14_ : (Int × Int × Int × Int × Int × Int × Int × Int × Int × Int × Int × Unit) × (Int) × Unit) =>
 M.new (.cells (Row.ofList [(.int .i64 0), (.int .i64 0), (.int .i64 0), (.int .i64 0), (.int .u32 0), (.int .u32 0), (.int .u32 0), (.int .u32 0), (.int .u32 0), (.int .u32 0), (.int .u32 0)]) 76 false (0, 0) false) fun b15_ =>
 f82c6 X L x b0_ r14_ b15_
def f82c8 (X : XT) (L : LoopI) (x : (PA) × (Int) × Unit) (b0_ : Nat) (x6_ : Int) (v7_ : Bool) : M (Value) :=
 M.ite v7_
 (M.store (Addr.mk b0_ 0 none) [(.int .i64 0), (.int .i64 0), (.int .i64 0), (.int .i64 0), (.int .u32 0), (.int .u32 0), (.int .u32 0), (.int .u32 0), (.int .u32 0), (.int .u32 0), (.int .u32 0)]
 (f82c1 X L b0_))
 (M.deref x.1 fun a9_ =>
 M.load (.cell .ptr) 1 (a9_.add 0) fun (x10_ : PA) =>
 M.callS (.tuple [(.cell .slice), (.cell (.int .i64))]) (X (.call 115 [(.pointer x10_), (.int .u32 x6_)])) fun (r11_ : (SL) × (Int) × Unit) =>
 M.ite (!(eqB r11_.2.1 0))
 (M.store (Addr.mk b0_ 0 none) [(.int .i64 0), (.int .i64 0), (.int .i64 0), (.int .i64 0), (.int .u32 0), (.int .u32 0), (.int .u32 0), (.int .u32 0), (.int .u32 0), (.int .u32 0), (.int .u32 0)]
 (f82c2 X L b0_ r11_))
 (f82c7 X L x b0_ r11_))
def f82c9 (X : XT) (L : LoopI) (x : (PA) × (Int) × Unit) (b0_ : Nat) : M (Value) :=
 M.callS (.one (.cell (.int .i64))) (X (.call 94 [(.pointer x.1), (.int .i64 x.2.1)])) fun (r1_ : Int) =>
 M.ite (!(eqB r1_ 0))
 (M.store (Addr.mk b0_ 0 none) [(.int .i64 0), (.int .i64 0), (.int .i64 0), (.int .i64 0), (.int .u32 0), (.int .u32 0), (.int .u32 0), (.int .u32 0), (.int .u32 0), (.int .u32 0), (.int .u32 0)]
 (f82c0 X L b0_ r1_))
 (let v4_ : Int := subW .i64 x.2.1 1
 M.deref x.1 fun a5_ =>
 M.guard (inB v4_ 64)
 (M.load (.cell (.int .u32)) 1 ((a5_.add 1).add ((Int.toNat v4_) * 1)) fun (x6_ : Int) =>
 f82c8 X L x b0_ x6_ (eqB x6_ 0)))
def f82 (X : XT) (L : LoopI) (x : (PA) × (Int) × Unit) : M Value :=
 M.new (.cells (Row.ofList [(.int .i64 0), (.int .i64 0), (.int .i64 0), (.int .i64 0), (.int .u32 0), (.int .u32 0), (.int .u32 0), (.int .u32 0), (.int .u32 0), (.int .u32 0), (.int .u32 0)]) 76 false (0, 0) false) fun b0_ =>
 f82c9 X L x b0_

theorem e82 (X : XT) (L : LoopI) (x : (PA) × (Int) × Unit) : evBody CC { call := X, loop := L } 82 (shsInj [(.cell .ptr), (.cell (.int .i64))] x) = f82 X L x := by kernel_rfl

/-- hayrick/array.New -/
def f83c0 (X : XT) (L : LoopI) (x : (Int) × (Int) × Unit) (b2_ : Nat) (s3_ : (Int) × Unit) (x5_ : SL) : M (((Int) × Unit) ⊕ ((Unit) ⊕ (Unit))) :=
 M.guard (decide (0 ≤ x.2.1) && decide (x.2.1 ≤ x.2.1) && decide ((64 : Int) * x.2.1 ≤ 2 ^ 48))
 (M.new (.cells (Row.rep (zc 328) (Int.toNat x.2.1)) 328 false (0, 0) false) fun b6_ =>
 M.new (.cells (Row.ofList [(.slice (some (Addr.mk b6_ 0 none)) (Int.toNat x.2.1) (Int.toNat x.2.1))]) 227 false (0, 0) false) fun b7_ =>
 M.append 227 1 24 x5_.1 x5_.2.1 x5_.2.2 (.slice (some (Addr.mk b7_ 0 none)) 1 1) fun a8_ n9_ c10_ =>
 M.store ((Addr.mk b2_ 0 none).add 1) [(.slice a8_ n9_ c10_)]
 (M.pure (.inl ((addW .i64 s3_.1 1), ()))))
def f83c1 (X : XT) (L : LoopI) (x : (Int) × (Int) × Unit) (j0_ : (Bool) × Unit) : M (Value) :=
 M.ite j0_.1
 (M.pure (.tuple ⟨[(.pointer none), (.int .i64 1)]⟩))
 (M.new (.cells (Row.ofList [(.int .i64 x.2.1), (.slice none 0 0), (.slice none 0 0), (.int .i64 0), (.bool false)]) 226 false (0, 0) false) fun b2_ =>
 M.bind (L (σ := (Int) × Unit) (ρ := (Unit) ⊕ (Unit)) (fun s3_ =>
 M.ite (ltB s3_.1 x.1)
 (M.load (.cell .slice) 1 ((Addr.mk b2_ 0 none).add 1) fun (x5_ : SL) =>
 f83c0 X L x b2_ s3_ x5_)
 (M.pure (.inr (.inl (()))))) (0, ())) <| M.sum (fun (j12_ : Unit) =>
 M.pure (.tuple ⟨[(.pointer (some (Addr.mk b2_ 0 none))), (.int .i64 0)]⟩)) (fun _ => M.stuck))
def f83 (X : XT) (L : LoopI) (x : (Int) × (Int) × Unit) : M Value :=
 M.join (fun (j0_ : (Bool) × Unit) =>
 f83c1 X L x j0_) fun go1_ =>
 M.ite (ltB x.1 1)
 (go1_ (true, ()))
 (M.ite (ltB 255 x.1)
 (go1_ (true, ()))
 (M.ite (ltB x.2.1 1)
 (go1_ (true, ()))
 (go1_ ((ltB 4096 x.2.1), ()))))

theorem e83 (X : XT) (L : LoopI) (x : (Int) × (Int) × Unit) : evBody CC { call := X, loop := L } 83 (shsInj [(.cell (.int .i64)), (.cell (.int .i64))] x) = f83 X L x := by kernel_rfl

/-- hayrick/hayrickref06.New -/
def f84c0 (X : XT) (L : LoopI) (x : (Int) × (Int) × Unit) (b2_ : Nat) (s3_ : (Int) × Unit) (x5_ : SL) : M (((Int) × Unit) ⊕ ((Unit) ⊕ (Unit))) :=
 M.callS (.one (.agg [.slice, .bool])) (X (.call 117 [(.int .i64 x.2.1)])) fun (r6_ : SL × Bool × Unit) =>
 M.load (.cell .slice) 1 ((Addr.mk b2_ 0 none).add 0) fun (x7_ : SL) => cond (veqv (.slice x7_.1 x7_.2.1 x7_.2.2) (.slice x5_.1 x5_.2.1 x5_.2.2)) (M.new (.cells (Row.ofList [(.slice r6_.1.1 r6_.1.2.1 r6_.1.2.2), (.bool r6_.2.1)]) 233 false (0, 0) false) fun b8_ =>
 M.append 233 2 32 x5_.1 x5_.2.1 x5_.2.2 (.slice (some (Addr.mk b8_ 0 none)) 1 1) fun a9_ n10_ c11_ =>
 M.store ((Addr.mk b2_ 0 none).add 0) [(.slice a9_ n10_ c11_)]
 (M.pure (.inl ((addW .i64 s3_.1 1), ())))) M.stuck
def f84c1 (X : XT) (L : LoopI) (x : (Int) × (Int) × Unit) (j0_ : (Bool) × Unit) : M (Value) :=
 M.ite j0_.1
 (M.pure (.tuple ⟨[(.pointer none), (.int .i64 1)]⟩))
 (M.new (.cells (Row.ofList [(.slice none 0 0), (.int .i64 x.2.1), (.slice none 0 0), (.int .i64 0), (.bool false)]) 231 false (0, 0) false) fun b2_ =>
 M.bind (L (σ := (Int) × Unit) (ρ := (Unit) ⊕ (Unit)) (fun s3_ =>
 M.ite (ltB s3_.1 x.1)
 (M.load (.cell .slice) 1 ((Addr.mk b2_ 0 none).add 0) fun (x5_ : SL) =>
 f84c0 X L x b2_ s3_ x5_)
 (M.pure (.inr (.inl (()))))) (0, ())) <| M.sum (fun (j13_ : Unit) =>
 M.pure (.tuple ⟨[(.pointer (some (Addr.mk b2_ 0 none))), (.int .i64 0)]⟩)) (fun _ => M.stuck))
def f84 (X : XT) (L : LoopI) (x : (Int) × (Int) × Unit) : M Value :=
 M.join (fun (j0_ : (Bool) × Unit) =>
 f84c1 X L x j0_) fun go1_ =>
 M.ite (ltB x.1 1)
 (go1_ (true, ()))
 (M.ite (ltB 255 x.1)
 (go1_ (true, ()))
 (M.ite (ltB x.2.1 1)
 (go1_ (true, ()))
 (go1_ ((ltB 4096 x.2.1), ()))))

theorem e84 (X : XT) (L : LoopI) (x : (Int) × (Int) × Unit) : evBody CC { call := X, loop := L } 84 (shsInj [(.cell (.int .i64)), (.cell (.int .i64))] x) = f84 X L x := by kernel_rfl

/-- hayrick/stripe.New -/
def f85c0 (X : XT) (L : LoopI) (x : (PA) × (Int × Int × Int × Unit) × (Int) × Unit) (b0_ : Nat) (go4_ : ((Bool) × Unit) → M (Value)) (x16_ : Int) (r17_ : Int) : M (Value) :=
 M.load (.cell (.int .i64)) 1 ((Addr.mk b0_ 0 none).add 1) fun (x18_ : Int) => cond (veqv (.int .i64 x18_) (.int .i64 x16_)) (M.ite (!(eqB r17_ x16_))
 (go4_ (true, ()))
 (M.load (.cell (.int .i64)) 1 ((Addr.mk b0_ 0 none).add 2) fun (x20_ : Int) =>
 M.callS (.one (.cell (.int .i64))) (X (.call 120 [(.pointer x.1)])) fun (r22_ : Int) =>
 M.load (.cell (.int .i64)) 1 ((Addr.mk b0_ 0 none).add 2) fun (x23_ : Int) => cond (veqv (.int .i64 x23_) (.int .i64 x20_)) (go4_ ((ltB (subW .i64 r22_ x.2.2.1) (mulW .i64 x20_ 8)), ())) M.stuck)) M.stuck
def f85c1 (X : XT) (L : LoopI) (x : (PA) × (Int × Int × Int × Unit) × (Int) × Unit) (b0_ : Nat) (go4_ : ((Bool) × Unit) → M (Value)) (v10_ : Bool) : M (Value) :=
 M.ite v10_
 (go4_ (true, ()))
 (M.load (.cell (.int .i64)) 1 ((Addr.mk b0_ 0 none).add 2) fun (x11_ : Int) =>
 M.ite (ltB x11_ 1)
 (go4_ (true, ()))
 (M.load (.cell (.int .i64)) 1 ((Addr.mk b0_ 0 none).add 2) fun (x13_ : Int) =>
 M.ite (ltB 128 x13_)
 (go4_ (true, ()))
 (M.ite (ltB x.2.2.1 0)
 (go4_ (true, ()))
 (M.load (.cell (.int .i64)) 1 ((Addr.mk b0_ 0 none).add 1) fun (x16_ : Int) =>
 M.callS (.one (.cell (.int .i64))) (X (.call 118 [(.pointer x.1)])) fun (r17_ : Int) =>
 f85c0 X L x b0_ go4_ x16_ r17_))))
def f85c2 (X : XT) (L : LoopI) (x : (PA) × (Int × Int × Int × Unit) × (Int) × Unit) (b0_ : Nat) : M (Value) :=
 M.join (fun (j3_ : (Bool) × Unit) =>
 M.ite j3_.1
 (M.pure (.tuple ⟨[(.pointer none), (.int .i64 1)]⟩))
 (M.load (.agg [(.int .i64), (.int .i64), (.int .i64)]) 3 (Addr.mk b0_ 0 none) fun (x5_ : Int × Int × Int × Unit) =>
 M.new (.cells (Row.ofList [(.pointer x.1), (.int .i64 x5_.1), (.int .i64 x5_.2.1), (.int .i64 x5_.2.2.1), (.int .i64 x.2.2.1)]) 237 false (0, 0) false) fun b6_ =>
 M.pure (.tuple ⟨[(.pointer (some (Addr.mk b6_ 0 none))), (.int .i64 0)]⟩))) fun go4_ =>
 M.load (.cell (.int .i64)) 1 ((Addr.mk b0_ 0 none).add 0) fun (x7_ : Int) =>
 M.load (.cell (.int .i64)) 1 ((Addr.mk b0_ 0 none).add 1) fun (x8_ : Int) =>
 M.callS (.one (.cell .bool)) (X (.call 119 [(.int .i64 x7_), (.int .i64 x8_)])) fun (r9_ : Bool) =>
 f85c1 X L x b0_ go4_ (!r9_)
def f85 (X : XT) (L : LoopI) (x : (PA) × (Int × Int × Int × Unit) × (Int) × Unit) : M Value :=
 M.new (.cells (Row.ofList [(.int .i64 x.2.1.1), (.int .i64 x.2.1.2.1), (.int .i64 x.2.1.2.2.1)]) 160 false (0, 0) false) fun b0_ =>
 M.callS (.one (.cell (.int .i64))) (X (.call 118 [(.pointer x.1)])) fun (r1_ : Int) =>
 M.ite (eqB r1_ 0)
 (M.pure (.tuple ⟨[(.pointer none), (.int .i64 2)]⟩))
 (f85c2 X L x b0_)

theorem e85 (X : XT) (L : LoopI) (x : (PA) × (Int × Int × Int × Unit) × (Int) × Unit) : evBody CC { call := X, loop := L } 85 (shsInj [(.cell .ptr), (.agg [(.int .i64), (.int .i64), (.int .i64)]), (.cell (.int .i64))] x) = f85 X L x := by kernel_rfl

/-- hayrick/hayrickref08.New -/
def f86c0 (X : XT) (L : LoopI) (x : (PA) × (Int × Int × Int × Unit) × (Int) × Unit) (b0_ : Nat) (go4_ : ((Bool) × Unit) → M (Value)) (a7_ : Addr) : M (Value) :=
 M.load (.cell .slice) 1 (a7_.add 0) fun (x8_ : SL) =>
 M.load (.cell (.int .i64)) 1 ((Addr.mk b0_ 0 none).add 1) fun (x10_ : Int) =>
 M.ite (!(eqB ((x8_.2.1 : Nat) : Int) x10_))
 (go4_ (true, ()))
 (M.deref x.1 fun a12_ =>
 M.load (.cell (.int .i64)) 1 (a12_.add 1) fun (x13_ : Int) =>
 M.ite (ltB x13_ x.2.2.1)
 (go4_ (true, ()))
 (M.deref x.1 fun a15_ =>
 M.load (.cell (.int .i64)) 1 (a15_.add 1) fun (x16_ : Int) =>
 M.load (.cell (.int .i64)) 1 ((Addr.mk b0_ 0 none).add 2) fun (x18_ : Int) =>
 go4_ ((ltB (subW .i64 x16_ x.2.2.1) (mulW .i64 8 x18_)), ())))
def f86c1 (X : XT) (L : LoopI) (x : (PA) × (Int × Int × Int × Unit) × (Int) × Unit) (b0_ : Nat) : M (Value) :=
 M.join (fun (j3_ : (Bool) × Unit) =>
 M.ite j3_.1
 (M.pure (.tuple ⟨[(.pointer none), (.int .i64 1)]⟩))
 (M.load (.agg [(.int .i64), (.int .i64), (.int .i64)]) 3 (Addr.mk b0_ 0 none) fun (x5_ : Int × Int × Int × Unit) =>
 M.new (.cells (Row.ofList [(.pointer x.1), (.int .i64 x5_.1), (.int .i64 x5_.2.1), (.int .i64 x5_.2.2.1), (.int .i64 x.2.2.1)]) 184 false (0, 0) false) fun b6_ =>
 M.pure (.tuple ⟨[(.pointer (some (Addr.mk b6_ 0 none))), (.int .i64 0)]⟩))) fun go4_ =>
 M.deref x.1 fun a7_ =>
 f86c0 X L x b0_ go4_ a7_
def f86c2 (X : XT) (L : LoopI) (x : (PA) × (Int × Int × Int × Unit) × (Int) × Unit) (b0_ : Nat) (go2_ : ((Bool) × Unit) → M (Value)) : M (Value) :=
 M.load (.cell (.int .i64)) 1 ((Addr.mk b0_ 0 none).add 0) fun (x21_ : Int) =>
 M.load (.cell (.int .i64)) 1 ((Addr.mk b0_ 0 none).add 1) fun (x22_ : Int) =>
 M.callS (.one (.cell .bool)) (X (.call 121 [(.int .i64 x21_), (.int .i64 x22_)])) fun (r23_ : Bool) =>
 M.ite (!r23_)
 (go2_ (true, ()))
 (M.load (.cell (.int .i64)) 1 ((Addr.mk b0_ 0 none).add 2) fun (x25_ : Int) =>
 M.ite (ltB x25_ 1)
 (go2_ (true, ()))
 (M.load (.cell (.int .i64)) 1 ((Addr.mk b0_ 0 none).add 2) fun (x27_ : Int) =>
 M.ite (ltB 128 x27_)
 (go2_ (true, ()))
 (go2_ ((ltB x.2.2.1 0), ()))))
def f86 (X : XT) (L : LoopI) (x : (PA) × (Int × Int × Int × Unit) × (Int) × Unit) : M Value :=
 M.new (.cells (Row.ofList [(.int .i64 x.2.1.1), (.int .i64 x.2.1.2.1), (.int .i64 x.2.1.2.2.1)]) 160 false (0, 0) false) fun b0_ =>
 M.join (fun (j1_ : (Bool) × Unit) =>
 M.ite j1_.1
 (M.pure (.tuple ⟨[(.pointer none), (.int .i64 1)]⟩))
 (f86c1 X L x b0_)) fun go2_ =>
 f86c2 X L x b0_ go2_

theorem e86 (X : XT) (L : LoopI) (x : (PA) × (Int × Int × Int × Unit) × (Int) × Unit) : evBody CC { call := X, loop := L } 86 (shsInj [(.cell .ptr), (.agg [(.int .i64), (.int .i64), (.int .i64)]), (.cell (.int .i64))] x) = f86 X L x := by kernel_rfl

/-- (*hayrick/stripe.Stripes).Array -/
def f87 (X : XT) (L : LoopI) (x : (PA) × Unit) : M Value :=
 M.eqPtr x.1 none fun (q0_ : Bool) =>
 M.ite q0_
 (M.pure (.pointer none))
 (M.deref x.1 fun a1_ =>
 M.load (.cell .ptr) 1 (a1_.add 0) fun (x2_ : PA) =>
 M.pure (.pointer x2_))

theorem e87 (X : XT) (L : LoopI) (x : (PA) × Unit) : evBody CC { call := X, loop := L } 87 (shsInj [(.cell .ptr)] x) = f87 X L x := by kernel_rfl

/-- (*hayrick/stripe.Stripes).Geometry -/
def f88c0 (X : XT) (L : LoopI) (x : (PA) × Unit) (b0_ : Nat) (q1_ : Bool) : M (Value) :=
 M.ite q1_
 (M.store (Addr.mk b0_ 0 none) [(.int .i64 0), (.int .i64 0), (.int .i64 0)]
 (M.load (.agg [(.int .i64), (.int .i64), (.int .i64)]) 3 (Addr.mk b0_ 0 none) fun (x2_ : Int × Int × Int × Unit) =>
 M.pure (.agg ⟨[(.int .i64 x2_.1), (.int .i64 x2_.2.1), (.int .i64 x2_.2.2.1)]⟩)))
 (M.deref x.1 fun a3_ =>
 M.load (.agg [(.int .i64), (.int .i64), (.int .i64)]) 3 (a3_.add 1) fun (x4_ : Int × Int × Int × Unit) =>
 M.store (Addr.mk b0_ 0 none) [(.int .i64 x4_.1), (.int .i64 x4_.2.1), (.int .i64 x4_.2.2.1)]
 (M.load (.agg [(.int .i64), (.int .i64), (.int .i64)]) 3 (Addr.mk b0_ 0 none) fun (x5_ : Int × Int × Int × Unit) =>
 M.pure (.agg ⟨[(.int .i64 x5_.1), (.int .i64 x5_.2.1), (.int .i64 x5_.2.2.1)]⟩)))
def f88 (X : XT) (L : LoopI) (x : (PA) × Unit) : M Value :=
 M.new (.cells (Row.ofList [(.int .i64 0), (.int .i64 0), (.int .i64 0)]) 160 false (0, 0) false) fun b0_ =>
 M.eqPtr x.1 none fun (q1_ : Bool) =>
 f88c0 X L x b0_ q1_

theorem e88 (X : XT) (L : LoopI) (x : (PA) × Unit) : evBody CC { call := X, loop := L } 88 (shsInj [(.cell .ptr)] x) = f88 X L x := by kernel_rfl

/-- hayrick/logs.slots -/
def f89c0 (X : XT) (L : LoopI) (x : (SL) × (Int) × (Int) × Unit) (b0_ : Nat) (s2_ : (Int) × Unit) (x5_ : Int) : M (((Int) × Unit) ⊕ ((Unit) ⊕ (((Bool) × Unit) ⊕ (Unit)))) :=
 M.join (fun (j6_ : (Bool) × Unit) =>
 M.ite j6_.1
 (M.pure (.inr (.inr (.inl (false, ())))))
 (M.guard (inB x5_ (Int.toNat x.2.1))
 (M.store ((Addr.mk b0_ 0 none).add ((Int.toNat x5_) * 1)) [(.bool true)]
 (M.pure (.inl ((addW .i64 s2_.1 1), ())))))) fun go7_ =>
 M.ite (ltB x5_ 0)
 (go7_ (true, ()))
 (M.ite (leB x.2.1 x5_)
 (go7_ (true, ()))
 (M.guard (inB x5_ (Int.toNat x.2.1))
 (M.load (.cell .bool) 1 ((Addr.mk b0_ 0 none).add ((Int.toNat x5_) * 1)) fun (x11_ : Bool) =>
 M.ite x11_
 (go7_ (true, ()))
 (go7_ ((eqB x5_ x.2.2.1), ())))))
def f89c1 (X : XT) (L : LoopI) (x : (SL) × (Int) × (Int) × Unit) : M (Value) :=
 M.guard (decide (0 ≤ x.2.1) && decide (x.2.1 ≤ x.2.1) && decide ((1 : Int) * x.2.1 ≤ 2 ^ 48))
 (M.new (.cells (Row.rep [(.bool false)] (Int.toNat x.2.1)) 4 false (0, 0) false) fun b0_ =>
 M.bind (L (σ := (Int) × Unit) (ρ := (Unit) ⊕ (((Bool) × Unit) ⊕ (Unit))) (fun s2_ =>
 M.ite (ltB s2_.1 ((x.1.2.1 : Nat) : Int))
 (M.guard (inB s2_.1 x.1.2.1)
 (M.deref x.1.1 fun a4_ =>
 M.load (.cell (.int .i64)) 1 (a4_.add ((Int.toNat s2_.1) * 1)) fun (x5_ : Int) =>
 f89c0 X L x b0_ s2_ x5_))
 (M.pure (.inr (.inl (()))))) (0, ())) <| M.sum (fun (j13_ : Unit) =>
 M.pure (.bool true)) (M.sum (fun (j14_ : (Bool) × Unit) =>
 M.pure (.bool j14_.1)) (fun _ => M.stuck)))
def f89 (X : XT) (L : LoopI) (x : (SL) × (Int) × (Int) × Unit) : M Value :=
 f89c1 X L x

theorem e89 (X : XT) (L : LoopI) (x : (SL) × (Int) × (Int) × Unit) : evBody CC { call := X, loop := L } 89 (shsInj [(.cell .slice), (.cell (.int .i64)), (.cell (.int .i64))] x) = f89 X L x := by kernel_rfl

/-- slices.Clone[[]uint64,uint64] -/
def f90 (X : XT) (L : LoopI) (x : (SL) × Unit) : M Value :=
 M.ite x.1.1.isNone
 (M.pure (.slice none 0 0))
 (M.new (.cells (Row.ofList []) 126 false (0, 0) false) fun b0_ =>
 M.append 126 1 8 (some (Addr.mk b0_ 0 none)) 0 0 (.slice x.1.1 x.1.2.1 x.1.2.2) fun a1_ n2_ c3_ =>
 M.pure (.slice a1_ n2_ c3_))

theorem e90 (X : XT) (L : LoopI) (x : (SL) × Unit) : evBody CC { call := X, loop := L } 90 (shsInj [(.cell .slice)] x) = f90 X L x := by kernel_rfl

/-- hayrick/logs.rising -/
def f91 (X : XT) (L : LoopI) (x : (SL) × Unit) : M Value :=
 M.callS (.one (.cell .slice)) (X (.call 122 [(.slice x.1.1 x.1.2.1 x.1.2.2)])) fun (r0_ : SL) =>
 M.callS (.tuple []) (X (.call 123 [(.slice r0_.1 r0_.2.1 r0_.2.2)])) fun (r1_ : Unit) =>
 M.pure (.slice r0_.1 r0_.2.1 r0_.2.2)

theorem e91 (X : XT) (L : LoopI) (x : (SL) × Unit) : evBody CC { call := X, loop := L } 91 (shsInj [(.cell .slice)] x) = f91 X L x := by kernel_rfl

/-- hayrick/hayrickref17.slots -/
def f92c0 (X : XT) (L : LoopI) (x : (SL) × (Int) × (Int) × Unit) (b0_ : Nat) (s1_ : (Int) × Unit) (a6_ : Addr) : M (((Int) × Unit) ⊕ ((Unit) ⊕ (((SL) × (Bool) × Unit) ⊕ (Unit)))) :=
 M.load (.cell (.int .i64)) 1 (a6_.add ((Int.toNat s1_.1) * 1)) fun (x7_ : Int) =>
 M.guard (inB x7_ (Int.toNat x.2.1))
 (M.load (.cell .bool) 1 ((Addr.mk b0_ 0 none).add ((Int.toNat x7_) * 1)) fun (x8_ : Bool) =>
 M.ite x8_
 (M.pure (.inr (.inr (.inl ((none, 0, 0), false, ())))))
 (M.guard (inB s1_.1 x.1.2.1)
 (M.deref x.1.1 fun a9_ =>
 M.load (.cell (.int .i64)) 1 (a9_.add ((Int.toNat s1_.1) * 1)) fun (x10_ : Int) =>
 M.guard (inB x10_ (Int.toNat x.2.1))
 (M.store ((Addr.mk b0_ 0 none).add ((Int.toNat x10_) * 1)) [(.bool true)]
 (M.pure (.inl ((addW .i64 s1_.1 1), ())))))))
def f92c1 (X : XT) (L : LoopI) (x : (SL) × (Int) × (Int) × Unit) (s1_ : (Int) × Unit) (go5_ : ((Bool) × Unit) → M (((Int) × Unit) ⊕ ((Unit) ⊕ (((SL) × (Bool) × Unit) ⊕ (Unit))))) : M (((Int) × Unit) ⊕ ((Unit) ⊕ (((SL) × (Bool) × Unit) ⊕ (Unit)))) :=
 M.guard (inB s1_.1 x.1.2.1)
 (M.deref x.1.1 fun a12_ =>
 M.load (.cell (.int .i64)) 1 (a12_.add ((Int.toNat s1_.1) * 1)) fun (x13_ : Int) =>
 M.ite (ltB x13_ 0)
 (go5_ (true, ()))
 (M.guard (inB s1_.1 x.1.2.1)
 (M.deref x.1.1 fun a15_ =>
 M.load (.cell (.int .i64)) 1 (a15_.add ((Int.toNat s1_.1) * 1)) fun (x16_ : Int) =>
 M.ite (leB x.2.1 x16_)
 (go5_ (true, ()))
 (M.guard (inB s1_.1 x.1.2.1)
 (M.deref x.1.1 fun a18_ =>
 M.load (.cell (.int .i64)) 1 (a18_.add ((Int.toNat s1_.1) * 1)) fun (x19_ : Int) =>
 go5_ ((eqB x19_ x.2.2.1), ()))))))
def f92c2 (X : XT) (L : LoopI) (x : (SL) × (Int) × (Int) × Unit) (b0_ : Nat) : M (Value) :=
 M.bind (L (σ := (Int) × Unit) (ρ := (Unit) ⊕ (((SL) × (Bool) × Unit) ⊕ (Unit))) (fun s1_ =>
 M.ite (ltB s1_.1 ((x.1.2.1 : Nat) : Int))
 (M.join (fun (j4_ : (Bool) × Unit) =>
 M.ite j4_.1
 (M.pure (.inr (.inr (.inl ((none, 0, 0), false, ())))))
 (M.guard (inB s1_.1 x.1.2.1)
 (M.deref x.1.1 fun a6_ =>
 f92c0 X L x b0_ s1_ a6_))) fun go5_ =>
 f92c1 X L x s1_ go5_)
 (M.pure (.inr (.inl (()))))) (0, ())) <| M.sum (fun (j21_ : Unit) =>
 M.pure (.tuple ⟨[(.slice (some (Addr.mk b0_ 0 none)) (Int.toNat x.2.1) (Int.toNat x.2.1)), (.bool true)]⟩)) (M.sum (fun (j22_ : (SL) × (Bool) × Unit) =>
 M.pure (.tuple ⟨[(.slice j22_.1.1 j22_.1.2.1 j22_.1.2.2), (.bool j22_.2.1)]⟩)) (fun _ => M.stuck))
def f92 (X : XT) (L : LoopI) (x : (SL) × (Int) × (Int) × Unit) : M Value :=
 M.guard (decide (0 ≤ x.2.1) && decide (x.2.1 ≤ x.2.1) && decide ((1 : Int) * x.2.1 ≤ 2 ^ 48))
 (M.new (.cells (Row.rep [(.bool false)] (Int.toNat x.2.1)) 4 false (0, 0) false) fun b0_ =>
 f92c2 X L x b0_)

theorem e92 (X : XT) (L : LoopI) (x : (SL) × (Int) × (Int) × Unit) : evBody CC { call := X, loop := L } 92 (shsInj [(.cell .slice), (.cell (.int .i64)), (.cell (.int .i64))] x) = f92 X L x := by kernel_rfl

/-- slices.IndexFunc[[]uint32,uint32] -/
def f93c0 (X : XT) (L : LoopI) (x : (SL) × (Value) × Unit) (v0_ : Int) : M (Value) :=
 M.bind (L (σ := (Int) × Unit) (ρ := (Unit) ⊕ (((Int) × Unit) ⊕ (Unit))) (fun s1_ =>
 M.ite (ltB s1_.1 v0_)
 (M.guard (inB s1_.1 x.1.2.1)
 (M.deref x.1.1 fun a3_ =>
 M.load (.cell (.int .u32)) 1 (a3_.add ((Int.toNat s1_.1) * 1)) fun (x4_ : Int) =>
 callV CC ⟨X, L⟩ x.2.1 [(.int .u32 x4_)] fun w6_ => M.need (RSh.prj (.one (.cell .bool)) w6_) fun (r5_ : Bool) =>
 M.ite r5_
 (M.pure (.inr (.inr (.inl (s1_.1, ())))))
 (M.pure (.inl ((addW .i64 s1_.1 1), ())))))
 (M.pure (.inr (.inl (()))))) (0, ())) <| M.sum (fun (j8_ : Unit) =>
 M.pure (.int .i64 (-1))) (M.sum (fun (j9_ : (Int) × Unit) =>
 M.pure (.int .i64 j9_.1)) (fun _ => M.stuck))
def f93 (X : XT) (L : LoopI) (x : (SL) × (Value) × Unit) : M Value :=
 f93c0 X L x ((x.1.2.1 : Nat) : Int)

theorem e93 (X : XT) (L : LoopI) (x : (SL) × (Value) × Unit) : evBody CC { call := X, loop := L } 93 (shsInj [(.cell .slice), (.cell .val)] x) = f93 X L x := by kernel_rfl

/-- (*hayrick/store.Store).right -/
def f94 (X : XT) (L : LoopI) (x : (PA) × (Int) × Unit) : M Value :=
 M.join (fun (j0_ : (Bool) × Unit) =>
 M.ite j0_.1
 (M.pure (.int .i64 2))
 (M.join (fun (j2_ : (Bool) × Unit) =>
 M.ite j2_.1
 (M.pure (.int .i64 1))
 (M.pure (.int .i64 0))) fun go3_ =>
 M.ite (ltB x.2.1 1)
 (go3_ (true, ()))
 (go3_ ((ltB 64 x.2.1), ())))) fun go1_ =>
 M.eqPtr x.1 none fun (q6_ : Bool) =>
 M.ite q6_
 (go1_ (true, ()))
 (M.deref x.1 fun a7_ =>
 M.load (.cell .ptr) 1 (a7_.add 0) fun (x8_ : PA) =>
 M.eqPtr x8_ none fun (q9_ : Bool) =>
 go1_ (q9_, ()))

theorem e94 (X : XT) (L : LoopI) (x : (PA) × (Int) × Unit) : evBody CC { call := X, loop := L } 94 (shsInj [(.cell .ptr), (.cell (.int .i64))] x) = f94 X L x := by kernel_rfl

/-- (*hayrick/logs.Log).Append -/
def f95c0 (X : XT) (L : LoopI) (b0_ : Nat) (b1_ : Nat) (b2_ : Nat) (b3_ : Nat) (x4_ : PA) : M (Value) :=
 M.callS (.one (.cell (.int .i64))) (X (.call 124 [(.pointer x4_), (.func (.func 125) ⟨[]⟩ ⟨[(.pointer (some (Addr.mk b1_ 0 none))), (.pointer (some (Addr.mk b2_ 0 none))), (.pointer (some (Addr.mk b0_ 0 none))), (.pointer (some (Addr.mk b3_ 0 none)))]⟩)])) fun (r5_ : Int) =>
 M.ite (!(eqB r5_ 0))
 (M.store (Addr.mk b3_ 0 none) [(.int .u32 0)]
 (M.load (.cell (.int .u32)) 1 (Addr.mk b3_ 0 none) fun (x7_ : Int) =>
 M.pure (.tuple ⟨[(.int .u32 x7_), (.int .i64 r5_)]⟩)))
 (M.load (.cell (.int .u32)) 1 (Addr.mk b3_ 0 none) fun (x8_ : Int) =>
 M.store (Addr.mk b3_ 0 none) [(.int .u32 x8_)]
 (M.load (.cell (.int .u32)) 1 (Addr.mk b3_ 0 none) fun (x9_ : Int) =>
 M.pure (.tuple ⟨[(.int .u32 x9_), (.int .i64 0)]⟩)))
def f95c1 (X : XT) (L : LoopI) (x : (PA) × (Int × Bool × Int × Int × Unit) × (SL) × Unit) : M (Value) :=
 M.new (.cells (Row.ofList [(.pointer x.1)]) 81 false (0, 0) false) fun b0_ =>
 M.new (.cells (Row.ofList [(.int .i64 x.2.1.1), (.bool x.2.1.2.1), (.int .i64 x.2.1.2.2.1), (.int .i64 x.2.1.2.2.2.1)]) 143 false (0, 0) false) fun b1_ =>
 M.new (.cells (Row.ofList [(.slice x.2.2.1.1 x.2.2.1.2.1 x.2.2.1.2.2)]) 61 false (0, 0) false) fun b2_ =>
 M.new (.cells (Row.ofList [(.int .u32 0)]) 73 false (0, 0) false) fun b3_ =>
 M.load (.cell .ptr) 1 (Addr.mk b0_ 0 none) fun (x4_ : PA) =>
 f95c0 X L b0_ b1_ b2_ b3_ x4_
def f95 (X : XT) (L : LoopI) (x : (PA) × (Int × Bool × Int × Int × Unit) × (SL) × Unit) : M Value :=
 f95c1 X L x

theorem e95 (X : XT) (L : LoopI) (x : (PA) × (Int × Bool × Int × Int × Unit) × (SL) × Unit) : evBody CC { call := X, loop := L } 95 (shsInj [(.cell .ptr), (.agg [(.int .i64), .bool, (.int .i64), (.int .i64)]), (.cell .slice)] x) = f95 X L x := by kernel_rfl

/-- slices.Clone[[]uint32,uint32] -/
def f96 (X : XT) (L : LoopI) (x : (SL) × Unit) : M Value :=
 M.ite x.1.1.isNone
 (M.pure (.slice none 0 0))
 (M.new (.cells (Row.ofList []) 73 false (0, 0) false) fun b0_ =>
 M.append 73 1 4 (some (Addr.mk b0_ 0 none)) 0 0 (.slice x.1.1 x.1.2.1 x.1.2.2) fun a1_ n2_ c3_ =>
 M.pure (.slice a1_ n2_ c3_))

theorem e96 (X : XT) (L : LoopI) (x : (SL) × Unit) : evBody CC { call := X, loop := L } 96 (shsInj [(.cell .slice)] x) = f96 X L x := by kernel_rfl

/-- hayrick/hayrickref14.May -/
def f97c0 (X : XT) (L : LoopI) (b0_ : Nat) (v4_ : Bool) : M (Value) :=
 M.ite v4_
 (M.join (fun (j5_ : (Bool) × Unit) =>
 M.pure (.bool j5_.1)) fun go6_ =>
 M.load (.cell (.int .i64)) 1 ((Addr.mk b0_ 0 none).add 3) fun (x7_ : Int) =>
 M.ite (leB 0 x7_)
 (M.load (.cell (.int .i64)) 1 ((Addr.mk b0_ 0 none).add 3) fun (x9_ : Int) =>
 go6_ ((leB x9_ 33), ()))
 (go6_ (false, ())))
 (M.join (fun (j11_ : (Bool) × Unit) =>
 M.pure (.bool j11_.1)) fun go12_ =>
 M.load (.cell (.int .i64)) 1 ((Addr.mk b0_ 0 none).add 0) fun (x13_ : Int) =>
 M.ite (leB 2 x13_)
 (M.load (.cell (.int .i64)) 1 ((Addr.mk b0_ 0 none).add 0) fun (x15_ : Int) =>
 M.ite (leB x15_ 4)
 (M.load (.cell (.int .i64)) 1 ((Addr.mk b0_ 0 none).add 3) fun (x17_ : Int) =>
 go12_ ((eqB x17_ 0), ()))
 (go12_ (false, ())))
 (go12_ (false, ())))
def f97c1 (X : XT) (L : LoopI) (x : (Int × Bool × Int × Int × Unit) × Unit) : M (Value) :=
 M.new (.cells (Row.ofList [(.int .i64 x.1.1), (.bool x.1.2.1), (.int .i64 x.1.2.2.1), (.int .i64 x.1.2.2.2.1)]) 143 false (0, 0) false) fun b0_ =>
 M.join (fun (j1_ : (Bool) × Unit) =>
 M.ite j1_.1
 (M.pure (.bool false))
 (M.load (.cell (.int .i64)) 1 ((Addr.mk b0_ 0 none).add 0) fun (x3_ : Int) =>
 f97c0 X L b0_ (eqB x3_ 1))) fun go2_ =>
 M.load (.cell (.int .i64)) 1 ((Addr.mk b0_ 0 none).add 2) fun (x19_ : Int) =>
 M.ite (ltB x19_ 1)
 (go2_ (true, ()))
 (M.load (.cell (.int .i64)) 1 ((Addr.mk b0_ 0 none).add 2) fun (x21_ : Int) =>
 go2_ ((ltB 64 x21_), ()))
def f97 (X : XT) (L : LoopI) (x : (Int × Bool × Int × Int × Unit) × Unit) : M Value :=
 f97c1 X L x

theorem e97 (X : XT) (L : LoopI) (x : (Int × Bool × Int × Int × Unit) × Unit) : evBody CC { call := X, loop := L } 97 (shsInj [(.agg [(.int .i64), .bool, (.int .i64), (.int .i64)])] x) = f97 X L x := by kernel_rfl

/-- hayrick/hayrickref14.Address -/
def f98c0 (X : XT) (L : LoopI) (x : (Int) × (Int) × (Int) × Unit) : M (Value) :=
 M.join (fun (j0_ : (Bool) × Unit) =>
 M.ite j0_.1
 (M.pure (.tuple ⟨[(.int .u32 0), (.int .i64 1)]⟩))
 (M.callS (.one (.cell (.int .i64))) (X (.call 132 [(.int .i64 x.1)])) fun (r4_ : Int) =>
 M.pure (.tuple ⟨[(.int .u32 (wrapW .u32 (addW .i64 (addW .i64 (addW .i64 (mulW .i64 (mulW .i64 x.2.1 4) x.1) r4_) x.2.2.1) 1))), (.int .i64 0)]⟩))) fun go1_ =>
 M.ite (ltB x.1 1)
 (go1_ (true, ()))
 (M.ite (ltB 254 x.1)
 (go1_ (true, ()))
 (M.ite (ltB x.2.1 0)
 (go1_ (true, ()))
 (M.ite (ltB 127 x.2.1)
 (go1_ (true, ()))
 (M.ite (ltB x.2.2.1 0)
 (go1_ (true, ()))
 (M.callS (.one (.cell (.int .i64))) (X (.call 100 [(.int .i64 x.1)])) fun (r14_ : Int) =>
 go1_ ((leB r14_ x.2.2.1), ()))))))
def f98 (X : XT) (L : LoopI) (x : (Int) × (Int) × (Int) × Unit) : M Value :=
 f98c0 X L x

theorem e98 (X : XT) (L : LoopI) (x : (Int) × (Int) × (Int) × Unit) : evBody CC { call := X, loop := L } 98 (shsInj [(.cell (.int .i64)), (.cell (.int .i64)), (.cell (.int .i64))] x) = f98 X L x := by kernel_rfl

/-- hayrick/hayrickref17.own -/
def f99 (X : XT) (L : LoopI) (x : (SL) × Unit) : M Value :=
 M.append 5 1 1 none 0 0 (.slice x.1.1 x.1.2.1 x.1.2.2) fun a0_ n1_ c2_ =>
 M.pure (.slice a0_ n1_ c2_)

theorem e99 (X : XT) (L : LoopI) (x : (SL) × Unit) : evBody CC { call := X, loop := L } 99 (shsInj [(.cell .slice)] x) = f99 X L x := by kernel_rfl

/-- hayrick/hayrickref14.Cap -/
def f100 (X : XT) (L : LoopI) (x : (Int) × Unit) : M Value :=
 M.join (fun (j0_ : (Bool) × Unit) =>
 M.ite j0_.1
 (M.pure (.int .i64 0))
 (M.callS (.one (.cell (.int .i64))) (X (.call 132 [(.int .i64 x.1)])) fun (r3_ : Int) =>
 M.pure (.int .i64 (subW .i64 (mulW .i64 4 x.1) r3_)))) fun go1_ =>
 M.ite (ltB x.1 1)
 (go1_ (true, ()))
 (go1_ ((ltB 254 x.1), ()))

theorem e100 (X : XT) (L : LoopI) (x : (Int) × Unit) : evBody CC { call := X, loop := L } 100 (shsInj [(.cell (.int .i64))] x) = f100 X L x := by kernel_rfl

/-- hayrick/hayrickref11.Put -/
def f103c0 (X : XT) (L : LoopI) (b0_ : Nat) (b4_ : Nat) : M (Value) :=
 M.bind (L (σ := (Int) × Unit) (ρ := (Unit) ⊕ (Unit)) (fun s17_ =>
 M.ite (ltB s17_.1 6)
 (M.guard (inB s17_.1 6)
 (M.load (.cell (.int .u32)) 1 (((Addr.mk b0_ 0 none).add 4).add ((Int.toNat s17_.1) * 1)) fun (x21_ : Int) =>
 M.callS (.tuple []) (X (.call 135 [(.slice (some (Addr.mk b4_ 0 none)) (Int.toNat 112) (Int.toNat 112)), (.int .i64 (addW .i64 6 (mulW .i64 4 s17_.1))), (.int .i64 4), (.int .u64 (wrapW .u64 x21_))])) fun (r23_ : Unit) =>
 M.pure (.inl ((addW .i64 s17_.1 1), ()))))
 (M.pure (.inr (.inl (()))))) (0, ())) <| M.sum (fun (j25_ : Unit) =>
 M.load (.cell (.int .u32)) 1 ((Addr.mk b0_ 0 none).add 10) fun (x26_ : Int) =>
 M.callS (.tuple []) (X (.call 135 [(.slice (some (Addr.mk b4_ 0 none)) (Int.toNat 112) (Int.toNat 112)), (.int .i64 30), (.int .i64 4), (.int .u64 (wrapW .u64 x26_))])) fun (r28_ : Unit) =>
 M.pure (.tuple ⟨[(.slice (some (Addr.mk b4_ 0 none)) (Int.toNat 112) (Int.toNat 112)), (.int .i64 0)]⟩)) (fun _ => M.stuck)
def f103c1 (X : XT) (L : LoopI) (b0_ : Nat) (b4_ : Nat) : M (Value) :=
 M.load (.cell (.int .i64)) 1 ((Addr.mk b0_ 0 none).add 3) fun (x11_ : Int) =>
 M.callS (.tuple []) (X (.call 135 [(.slice (some (Addr.mk b4_ 0 none)) (Int.toNat 112) (Int.toNat 112)), (.int .i64 3), (.int .i64 1), (.int .u64 (wrapW .u64 x11_))])) fun (r13_ : Unit) =>
 M.load (.cell (.int .i64)) 1 ((Addr.mk b0_ 0 none).add 2) fun (x14_ : Int) =>
 M.callS (.tuple []) (X (.call 135 [(.slice (some (Addr.mk b4_ 0 none)) (Int.toNat 112) (Int.toNat 112)), (.int .i64 4), (.int .i64 2), (.int .u64 (wrapW .u64 x14_))])) fun (r16_ : Unit) =>
 f103c0 X L b0_ b4_
def f103c2 (X : XT) (L : LoopI) (b0_ : Nat) (b4_ : Nat) : M (Value) :=
 M.load (.cell (.int .i64)) 1 ((Addr.mk b0_ 0 none).add 0) fun (x5_ : Int) =>
 M.callS (.tuple []) (X (.call 135 [(.slice (some (Addr.mk b4_ 0 none)) (Int.toNat 112) (Int.toNat 112)), (.int .i64 0), (.int .i64 2), (.int .u64 (wrapW .u64 x5_))])) fun (r7_ : Unit) =>
 M.load (.cell (.int .i64)) 1 ((Addr.mk b0_ 0 none).add 1) fun (x8_ : Int) =>
 M.callS (.tuple []) (X (.call 135 [(.slice (some (Addr.mk b4_ 0 none)) (Int.toNat 112) (Int.toNat 112)), (.int .i64 2), (.int .i64 1), (.int .u64 (wrapW .u64 x8_))])) fun (r10_ : Unit) =>
 f103c1 X L b0_ b4_
def f103c3 (X : XT) (L : LoopI) (b0_ : Nat) (x1_ : Int × Int × Int × Int × Int × Int × Int × Int × Int × Int × Int × Unit) : M (Value) :=
 M.callS (.one (.cell .bool)) (X (.call 49 [(.agg ⟨[(.int .i64 x1_.1), (.int .i64 x1_.2.1), (.int .i64 x1_.2.2.1), (.int .i64 x1_.2.2.2.1), (.int .u32 x1_.2.2.2.2.1), (.int .u32 x1_.2.2.2.2.2.1), (.int .u32 x1_.2.2.2.2.2.2.1), (.int .u32 x1_.2.2.2.2.2.2.2.1), (.int .u32 x1_.2.2.2.2.2.2.2.2.1), (.int .u32 x1_.2.2.2.2.2.2.2.2.2.1), (.int .u32 x1_.2.2.2.2.2.2.2.2.2.2.1)]⟩)])) fun (r2_ : Bool) =>
 M.ite (!r2_)
 (M.pure (.tuple ⟨[(.slice none 0 0), (.int .i64 1)]⟩))
 (M.guard (decide (0 ≤ 112) && decide (112 ≤ 112) && decide ((1 : Int) * 112 ≤ 2 ^ 48))
 (M.new (.cells (Row.rep [(.int .u8 0)] (Int.toNat 112)) 5 false (0, 0) false) fun b4_ =>
 f103c2 X L b0_ b4_))
def f103c4 (X : XT) (L : LoopI) (x : (Int × Int × Int × Int × Int × Int × Int × Int × Int × Int × Int × Unit) × Unit) : M (Value) :=
 M.new (.cells (Row.ofList [(.int .i64 x.1.1), (.int .i64 x.1.2.1), (.int .i64 x.1.2.2.1), (.int .i64 x.1.2.2.2.1), (.int .u32 x.1.2.2.2.2.1), (.int .u32 x.1.2.2.2.2.2.1), (.int .u32 x.1.2.2.2.2.2.2.1), (.int .u32 x.1.2.2.2.2.2.2.2.1), (.int .u32 x.1.2.2.2.2.2.2.2.2.1), (.int .u32 x.1.2.2.2.2.2.2.2.2.2.1), (.int .u32 x.1.2.2.2.2.2.2.2.2.2.2.1)]) 76 false (0, 0) false) fun b0_ =>
 M.load (.agg [(.int .i64), (.int .i64), (.int .i64), (.int .i64), (.int .u32), (.int .u32), (.int .u32), (.int .u32), (.int .u32), (.int .u32), (.int .u32)]) 11 (Addr.mk b0_ 0 none) fun (x1_ : Int × Int × Int × Int × Int × Int × Int × Int × Int × Int × Int × Unit) =>
 f103c3 X L b0_ x1_
def f103 (X : XT) (L : LoopI) (x : (Int × Int × Int × Int × Int × Int × Int × Int × Int × Int × Int × Unit) × Unit) : M Value :=
 f103c4 X L x

theorem e103 (X : XT) (L : LoopI) (x : (Int × Int × Int × Int × Int × Int × Int × Int × Int × Int × Int × Unit) × Unit) : evBody CC { call := X, loop := L } 103 (shsInj [(.agg [(.int .i64), (.int .i64), (.int .i64), (.int .i64), (.int .u32), (.int .u32), (.int .u32), (.int .u32), (.int .u32), (.int .u32), (.int .u32)])] x) = f103 X L x := by kernel_rfl

/-- hayrick/entry.may -/
def f104 (X : XT) (L : LoopI) (x : (Int) × Unit) : M Value :=
 M.join (fun (j0_ : (Bool) × Unit) =>
 M.pure (.bool j0_.1)) fun go1_ =>
 M.ite (leB 1 x.1)
 (go1_ ((leB x.1 64), ()))
 (go1_ (false, ()))

theorem e104 (X : XT) (L : LoopI) (x : (Int) × Unit) : evBody CC { call := X, loop := L } 104 (shsInj [(.cell (.int .i64))] x) = f104 X L x := by kernel_rfl

/-- hayrick/hayrickref10.Compare -/
def f105c0 (X : XT) (L : LoopI) (r0_ : SL) (r1_ : SL) (s2_ : (Int) × Unit) (x10_ : Int) (a11_ : Addr) : M (((Int) × Unit) ⊕ ((Unit) ⊕ (((Int) × Unit) ⊕ (Unit)))) :=
 M.load (.cell (.int .i32)) 1 (a11_.add ((Int.toNat s2_.1) * 1)) fun (x12_ : Int) =>
 M.ite (ltB x10_ x12_)
 (M.pure (.inr (.inr (.inl ((-1), ())))))
 (M.guard (inB s2_.1 r0_.2.1)
 (M.deref r0_.1 fun a14_ =>
 M.load (.cell (.int .i32)) 1 (a14_.add ((Int.toNat s2_.1) * 1)) fun (x15_ : Int) =>
 M.guard (inB s2_.1 r1_.2.1)
 (M.deref r1_.1 fun a16_ =>
 M.load (.cell (.int .i32)) 1 (a16_.add ((Int.toNat s2_.1) * 1)) fun (x17_ : Int) =>
 M.ite (ltB x17_ x15_)
 (M.pure (.inr (.inr (.inl (1, ())))))
 (M.pure (.inl ((addW .i64 s2_.1 1), ()))))))
def f105c1 (X : XT) (L : LoopI) (r0_ : SL) (r1_ : SL) (s2_ : (Int) × Unit) : M (((Int) × Unit) ⊕ ((Unit) ⊕ (((Int) × Unit) ⊕ (Unit)))) :=
 M.join (fun (j3_ : (Bool) × Unit) =>
 M.ite j3_.1
 (M.ite (eqB s2_.1 ((r0_.2.1 : Nat) : Int))
 (M.pure (.inr (.inr (.inl ((-1), ())))))
 (M.ite (eqB s2_.1 ((r1_.2.1 : Nat) : Int))
 (M.pure (.inr (.inr (.inl (1, ())))))
 (M.guard (inB s2_.1 r0_.2.1)
 (M.deref r0_.1 fun a9_ =>
 M.load (.cell (.int .i32)) 1 (a9_.add ((Int.toNat s2_.1) * 1)) fun (x10_ : Int) =>
 M.guard (inB s2_.1 r1_.2.1)
 (M.deref r1_.1 fun a11_ =>
 f105c0 X L r0_ r1_ s2_ x10_ a11_)))))
 (M.pure (.inr (.inl (()))))) fun go4_ =>
 M.ite (ltB s2_.1 ((r0_.2.1 : Nat) : Int))
 (go4_ (true, ()))
 (go4_ ((ltB s2_.1 ((r1_.2.1 : Nat) : Int)), ()))
def f105c2 (X : XT) (L : LoopI) (x : (ByteArray) × (ByteArray) × Unit) (s25_ : (Int) × Unit) (v29_ : Bool) : M (((Int) × Unit) ⊕ ((Unit) ⊕ (((Int) × Unit) ⊕ (Unit)))) :=
 M.ite v29_
 (M.pure (.inr (.inr (.inl ((-1), ())))))
 (M.ite (eqB s25_.1 ((x.2.1.size : Nat) : Int))
 (M.pure (.inr (.inr (.inl (1, ())))))
 (M.guard (inB s25_.1 x.1.size)
 (M.guard (inB s25_.1 x.2.1.size)
 (M.ite (ltB (byteAt x.1 s25_.1) (byteAt x.2.1 s25_.1))
 (M.pure (.inr (.inr (.inl ((-1), ())))))
 (M.guard (inB s25_.1 x.1.size)
 (M.guard (inB s25_.1 x.2.1.size)
 (M.ite (ltB (byteAt x.2.1 s25_.1) (byteAt x.1 s25_.1))
 (M.pure (.inr (.inr (.inl (1, ())))))
 (M.pure (.inl ((addW .i64 s25_.1 1), ()))))))))))
def f105c3 (X : XT) (L : LoopI) (x : (ByteArray) × (ByteArray) × Unit) (r0_ : SL) (r1_ : SL) : M (Value) :=
 M.bind (L (σ := (Int) × Unit) (ρ := (Unit) ⊕ (((Int) × Unit) ⊕ (Unit))) (fun s2_ =>
 f105c1 X L r0_ r1_ s2_) (0, ())) <| M.sum (fun (j24_ : Unit) =>
 M.bind (L (σ := (Int) × Unit) (ρ := (Unit) ⊕ (((Int) × Unit) ⊕ (Unit))) (fun s25_ =>
 M.join (fun (j26_ : (Bool) × Unit) =>
 M.ite j26_.1
 (f105c2 X L x s25_ (eqB s25_.1 ((x.1.size : Nat) : Int)))
 (M.pure (.inr (.inl (()))))) fun go27_ =>
 M.ite (ltB s25_.1 ((x.1.size : Nat) : Int))
 (go27_ (true, ()))
 (go27_ ((ltB s25_.1 ((x.2.1.size : Nat) : Int)), ()))) (0, ())) <| M.sum (fun (j43_ : Unit) =>
 M.pure (.int .i64 0)) (M.sum (fun (j44_ : (Int) × Unit) =>
 M.pure (.int .i64 j44_.1)) (fun _ => M.stuck))) (M.sum (fun (j45_ : (Int) × Unit) =>
 M.pure (.int .i64 j45_.1)) (fun _ => M.stuck))
def f105 (X : XT) (L : LoopI) (x : (ByteArray) × (ByteArray) × Unit) : M Value :=
 M.callS (.one (.cell .slice)) (X (.call 136 [(.string x.1)])) fun (r0_ : SL) =>
 M.callS (.one (.cell .slice)) (X (.call 136 [(.string x.2.1)])) fun (r1_ : SL) =>
 f105c3 X L x r0_ r1_

theorem e105 (X : XT) (L : LoopI) (x : (ByteArray) × (ByteArray) × Unit) : evBody CC { call := X, loop := L } 105 (shsInj [(.cell .string), (.cell .string)] x) = f105 X L x := by kernel_rfl

/-- hayrick/files.with -/
def f106c0 (X : XT) (L : LoopI) (x : (PA) × (Int) × (Value) × Unit) (b1_ : Nat) (r4_ : (SL) × (Int) × Unit) : M (Value) :=
 M.load (.agg [(.int .i64), (.int .i64), (.int .i64), (.int .i64), (.int .u32), (.int .u32), (.int .u32), (.int .u32), (.int .u32), (.int .u32), (.int .u32)]) 11 (Addr.mk b1_ 0 none) fun (x6_ : Int × Int × Int × Int × Int × Int × Int × Int × Int × Int × Int × Unit) =>
 callV CC ⟨X, L⟩ x.2.2.1 [(.agg ⟨[(.int .i64 x6_.1), (.int .i64 x6_.2.1), (.int .i64 x6_.2.2.1), (.int .i64 x6_.2.2.2.1), (.int .u32 x6_.2.2.2.2.1), (.int .u32 x6_.2.2.2.2.2.1), (.int .u32 x6_.2.2.2.2.2.2.1), (.int .u32 x6_.2.2.2.2.2.2.2.1), (.int .u32 x6_.2.2.2.2.2.2.2.2.1), (.int .u32 x6_.2.2.2.2.2.2.2.2.2.1), (.int .u32 x6_.2.2.2.2.2.2.2.2.2.2.1)]⟩), (.slice r4_.1.1 r4_.1.2.1 r4_.1.2.2)] fun w8_ => M.need (RSh.prj (.one (.cell (.int .i64))) w8_) fun (r7_ : Int) =>
 M.pure (.int .i64 r7_)
def f106c1 (X : XT) (L : LoopI) (x : (PA) × (Int) × (Value) × Unit) (b1_ : Nat) (x3_ : Int × Int × Int × Int × Int × Int × Int × Int × Int × Int × Int × Unit) : M (Value) :=
 M.callS (.tuple [(.cell .slice), (.cell (.int .i64))]) (X (.call 137 [(.pointer x.1), (.agg ⟨[(.int .i64 x3_.1), (.int .i64 x3_.2.1), (.int .i64 x3_.2.2.1), (.int .i64 x3_.2.2.2.1), (.int .u32 x3_.2.2.2.2.1), (.int .u32 x3_.2.2.2.2.2.1), (.int .u32 x3_.2.2.2.2.2.2.1), (.int .u32 x3_.2.2.2.2.2.2.2.1), (.int .u32 x3_.2.2.2.2.2.2.2.2.1), (.int .u32 x3_.2.2.2.2.2.2.2.2.2.1), (.int .u32 x3_.2.2.2.2.2.2.2.2.2.2.1)]⟩)])) fun (r4_ : (SL) × (Int) × Unit) =>
 M.ite (!(eqB r4_.2.1 0))
 (M.pure (.int .i64 r4_.2.1))
 (f106c0 X L x b1_ r4_)
def f106c2 (X : XT) (L : LoopI) (x : (PA) × (Int) × (Value) × Unit) (r0_ : (Int × Int × Int × Int × Int × Int × Int × Int × Int × Int × Int × Unit) × (Int) × Unit) (b1_ : Nat) : M (Value) :=
 M.store (Addr.mk b1_ 0 none) [(.int .i64 r0_.1.1), (.int .i64 r0_.1.2.1), (.int .i64 r0_.1.2.2.1), (.int .i64 r0_.1.2.2.2.1), (.int .u32 r0_.1.2.2.2.2.1), (.int .u32 r0_.1.2.2.2.2.2.1), (.int .u32 r0_.1.2.2.2.2.2.2.1), (.int .u32 r0_.1.2.2.2.2.2.2.2.1), (.int .u32 r0_.1.2.2.2.2.2.2.2.2.1), (.int .u32 r0_.1.2.2.2.2.2.2.2.2.2.1), (.int .u32 r0_.1.2.2.2.2.2.2.2.2.2.2.1)]
 (M.ite (!(eqB r0_.2.1 0))
 (M.pure (.int .i64 r0_.2.1))
 (M.load (.agg [(.int .i64), (.int .i64), (.int .i64), (.int .i64), (.int .u32), (.int .u32), (.int .u32), (.int .u32), (.int .u32), (.int .u32), (.int .u32)]) 11 (Addr.mk b1_ 0 none) fun (x3_ : Int × Int × Int × Int × Int × Int × Int × Int × Int × Int × Int × Unit) =>
 f106c1 X L x b1_ x3_))
def f106c3 (X : XT) (L : LoopI) (x : (PA) × (Int) × (Value) × Unit) : M (Value) :=
 M.callS (.tuple [(.agg [(.int .i64), (.int .i64), (.int .i64), (.int .i64), (.int .u32), (.int .u32), (.int .u32), (.int .u32), (.int .u32), (.int .u32), (.int .u32)]), (.cell (.int .i64))]) (X (.call 82 [(.pointer x.1), (.int .i64 x.2.1)])) fun (r0_ : (Int × Int × Int × Int × Int × Int × Int × Int × Int × Int × Int × Unit) × (Int) × Unit) =>
 M.new (.cells (Row.ofList [(.int .i64 0), (.int .i64 0), (.int .i64 0), (.int .i64 0), (.int .u32 0), (.int .u32 0), (.int .u32 0), (.int .u32 0), (.int .u32 0), (.int .u32 0), (.int .u32 0)]) 76 false (0, 0) false) fun b1_ =>
 f106c2 X L x r0_ b1_
def f106 (X : XT) (L : LoopI) (x : (PA) × (Int) × (Value) × Unit) : M Value :=
 f106c3 X L x

theorem e106 (X : XT) (L : LoopI) (x : (PA) × (Int) × (Value) × Unit) : evBody CC { call := X, loop := L } 106 (shsInj [(.cell .ptr), (.cell (.int .i64)), (.cell .val)] x) = f106 X L x := by kernel_rfl

/-- hayrick/files.Read$1 -/
def f107c0 (X : XT) (L : LoopI) (x : (Int × Int × Int × Int × Int × Int × Int × Int × Int × Int × Int × Unit) × (SL) × (PA) × (PA) × (PA) × (PA) × Unit) (s23_ : (Int) × Unit) (b27_ : Nat) (r33_ : (SL) × (Int) × Unit) (x37_ : SL) (x38_ : Int) (x39_ : Int) : M (((Int) × Unit) ⊕ ((Unit) ⊕ (((Int) × Unit) ⊕ (Unit)))) :=
 M.load (.cell (.int .i64)) 1 ((Addr.mk b27_ 0 none).add 2) fun (x40_ : Int) =>
 M.guard (upB x40_ r33_.1.2.2)
 (let v41_ : Nat := (Int.toNat x40_)
 M.guard (upB x39_ v41_)
 (let v42_ : Nat := (Int.toNat x39_)
 M.guard (upB x38_ v42_)
 (let v43_ : Nat := (Int.toNat x38_)
 M.append 5 1 1 x37_.1 x37_.2.1 x37_.2.2 (.slice (r33_.1.1.map (·.add (v43_ * 1))) (v42_ - v43_) (v41_ - v43_)) fun a44_ n45_ c46_ =>
 M.deref x.2.2.2.2.2.1 fun a47_ =>
 M.store a47_ [(.slice a44_ n45_ c46_)]
 (M.pure (.inl ((addW .i64 s23_.1 1), ()))))))
def f107c1 (X : XT) (L : LoopI) (x : (Int × Int × Int × Int × Int × Int × Int × Int × Int × Int × Int × Unit) × (SL) × (PA) × (PA) × (PA) × (PA) × Unit) (s23_ : (Int) × Unit) (b27_ : Nat) (x29_ : PA) (x32_ : Int) : M (((Int) × Unit) ⊕ ((Unit) ⊕ (((Int) × Unit) ⊕ (Unit)))) :=
 M.callS (.tuple [(.cell .slice), (.cell (.int .i64))]) (X (.call 109 [(.pointer x29_), (.int .u32 x32_)])) fun (r33_ : (SL) × (Int) × Unit) =>
 M.ite (!(eqB r33_.2.1 0))
 (M.deref x.2.2.2.2.2.1 fun a35_ =>
 M.store a35_ [(.slice none 0 0)]
 (M.pure (.inr (.inr (.inl (r33_.2.1, ()))))))
 (M.deref x.2.2.2.2.2.1 fun a36_ =>
 M.load (.cell .slice) 1 a36_ fun (x37_ : SL) =>
 M.load (.cell (.int .i64)) 1 ((Addr.mk b27_ 0 none).add 1) fun (x38_ : Int) =>
 M.load (.cell (.int .i64)) 1 ((Addr.mk b27_ 0 none).add 2) fun (x39_ : Int) =>
 f107c0 X L x s23_ b27_ r33_ x37_ x38_ x39_)
def f107c2 (X : XT) (L : LoopI) (x : (Int × Int × Int × Int × Int × Int × Int × Int × Int × Int × Int × Unit) × (SL) × (PA) × (PA) × (PA) × (PA) × Unit) (s23_ : (Int) × Unit) (x26_ : Int × Int × Int × Int × Unit) : M (((Int) × Unit) ⊕ ((Unit) ⊕ (((Int) × Unit) ⊕ (Unit)))) :=
 M.new (.cells (Row.ofList [(.int .i64 0), (.int .i64 0), (.int .i64 0), (.int .i64 0)]) 211 false (0, 0) false) fun b27_ =>
 M.store (Addr.mk b27_ 0 none) [(.int .i64 x26_.1), (.int .i64 x26_.2.1), (.int .i64 x26_.2.2.1), (.int .i64 x26_.2.2.2.1)]
 (M.deref x.2.2.2.2.1 fun a28_ =>
 M.load (.cell .ptr) 1 a28_ fun (x29_ : PA) =>
 M.load (.cell (.int .i64)) 1 ((Addr.mk b27_ 0 none).add 0) fun (x30_ : Int) =>
 M.guard (inB x30_ x.2.1.2.1)
 (M.deref x.2.1.1 fun a31_ =>
 M.load (.cell (.int .u32)) 1 (a31_.add ((Int.toNat x30_) * 1)) fun (x32_ : Int) =>
 f107c1 X L x s23_ b27_ x29_ x32_))
def f107c3 (X : XT) (L : LoopI) (x : (Int × Int × Int × Int × Int × Int × Int × Int × Int × Int × Int × Unit) × (SL) × (PA) × (PA) × (PA) × (PA) × Unit) (r20_ : (SL) × (Int) × Unit) (v22_ : Int) : M (Value) :=
 M.bind (L (σ := (Int) × Unit) (ρ := (Unit) ⊕ (((Int) × Unit) ⊕ (Unit))) (fun s23_ =>
 M.ite (ltB s23_.1 v22_)
 (M.guard (inB s23_.1 r20_.1.2.1)
 (M.deref r20_.1.1 fun a25_ =>
 M.load (.agg [(.int .i64), (.int .i64), (.int .i64), (.int .i64)]) 4 (a25_.add ((Int.toNat s23_.1) * 4)) fun (x26_ : Int × Int × Int × Int × Unit) =>
 f107c2 X L x s23_ x26_))
 (M.pure (.inr (.inl (()))))) (0, ())) <| M.sum (fun (j49_ : Unit) =>
 M.pure (.int .i64 0)) (M.sum (fun (j50_ : (Int) × Unit) =>
 M.pure (.int .i64 j50_.1)) (fun _ => M.stuck))
def f107c4 (X : XT) (L : LoopI) (x : (Int × Int × Int × Int × Int × Int × Int × Int × Int × Int × Int × Unit) × (SL) × (PA) × (PA) × (PA) × (PA) × Unit) (x9_ : Int) (v13_ : Int) : M (Value) :=
 M.deref x.2.2.2.1 fun a15_ =>
 M.store a15_ [(.int .i64 (if v13_ < x9_ then v13_ else x9_))]
 (M.deref x.2.2.1 fun a16_ =>
 M.load (.cell (.int .i64)) 1 a16_ fun (x17_ : Int) =>
 M.deref x.2.2.2.1 fun a18_ =>
 M.load (.cell (.int .i64)) 1 a18_ fun (x19_ : Int) =>
 M.callS (.tuple [(.cell .slice), (.cell (.int .i64))]) (X (.call 108 [(.int .i64 x17_), (.int .i64 x19_)])) fun (r20_ : (SL) × (Int) × Unit) =>
 M.ite (!(eqB r20_.2.1 0))
 (M.pure (.int .i64 r20_.2.1))
 (f107c3 X L x r20_ ((r20_.1.2.1 : Nat) : Int)))
def f107c5 (X : XT) (L : LoopI) (x : (Int × Int × Int × Int × Int × Int × Int × Int × Int × Int × Int × Unit) × (SL) × (PA) × (PA) × (PA) × (PA) × Unit) (b0_ : Nat) : M (Value) :=
 M.deref x.2.2.1 fun a3_ =>
 M.load (.cell (.int .i64)) 1 a3_ fun (x4_ : Int) =>
 M.load (.cell (.int .i64)) 1 ((Addr.mk b0_ 0 none).add 2) fun (x5_ : Int) =>
 M.deref x.2.2.1 fun a7_ =>
 M.store a7_ [(.int .i64 (if x5_ < x4_ then x5_ else x4_))]
 (M.deref x.2.2.2.1 fun a8_ =>
 M.load (.cell (.int .i64)) 1 a8_ fun (x9_ : Int) =>
 M.load (.cell (.int .i64)) 1 ((Addr.mk b0_ 0 none).add 2) fun (x10_ : Int) =>
 M.deref x.2.2.1 fun a11_ =>
 M.load (.cell (.int .i64)) 1 a11_ fun (x12_ : Int) =>
 f107c4 X L x x9_ (subW .i64 x10_ x12_))
def f107c6 (X : XT) (L : LoopI) (x : (Int × Int × Int × Int × Int × Int × Int × Int × Int × Int × Int × Unit) × (SL) × (PA) × (PA) × (PA) × (PA) × Unit) : M (Value) :=
 M.new (.cells (Row.ofList [(.int .i64 x.1.1), (.int .i64 x.1.2.1), (.int .i64 x.1.2.2.1), (.int .i64 x.1.2.2.2.1), (.int .u32 x.1.2.2.2.2.1), (.int .u32 x.1.2.2.2.2.2.1), (.int .u32 x.1.2.2.2.2.2.2.1), (.int .u32 x.1.2.2.2.2.2.2.2.1), (.int .u32 x.1.2.2.2.2.2.2.2.2.1), (.int .u32 x.1.2.2.2.2.2.2.2.2.2.1), (.int .u32 x.1.2.2.2.2.2.2.2.2.2.2.1)]) 76 false (0, 0) false) fun b0_ =>
 M.join (fun (j1_ : (Bool) × Unit) =>
 M.ite j1_.1
 (M.pure (.int .i64 1))
 (f107c5 X L x b0_)) fun go2_ =>
 M.deref x.2.2.1 fun a51_ =>
 M.load (.cell (.int .i64)) 1 a51_ fun (x52_ : Int) =>
 M.ite (ltB x52_ 0)
 (go2_ (true, ()))
 (M.deref x.2.2.2.1 fun a54_ =>
 M.load (.cell (.int .i64)) 1 a54_ fun (x55_ : Int) =>
 go2_ ((ltB x55_ 0), ()))
def f107 (X : XT) (L : LoopI) (x : (Int × Int × Int × Int × Int × Int × Int × Int × Int × Int × Int × Unit) × (SL) × (PA) × (PA) × (PA) × (PA) × Unit) : M Value :=
 f107c6 X L x

theorem e107 (X : XT) (L : LoopI) (x : (Int × Int × Int × Int × Int × Int × Int × Int × Int × Int × Int × Unit) × (SL) × (PA) × (PA) × (PA) × (PA) × Unit) : evBody CC { call := X, loop := L } 107 (shsInj [(.agg [(.int .i64), (.int .i64), (.int .i64), (.int .i64), (.int .u32), (.int .u32), (.int .u32), (.int .u32), (.int .u32), (.int .u32), (.int .u32)]), (.cell .slice), (.cell .ptr), (.cell .ptr), (.cell .ptr), (.cell .ptr)] x) = f107 X L x := by kernel_rfl

/-- hayrick/points.Cut -/
def f108c0 (X : XT) (L : LoopI) (x : (Int) × (Int) × Unit) (s4_ : (SL) × (Int) × Unit) (v7_ : Int) (v8_ : Int) : M (((SL) × (Int) × Unit) ⊕ (((SL) × Unit) ⊕ (Unit))) :=
 let v9_ : Int := subW .i64 v8_ s4_.2.1
 let v10_ : Int := (if v9_ < 112 then v9_ else 112)
 M.guard (!(decide (112 = 0)))
 (M.new (.cells (Row.ofList [(.int .i64 (IntKind.i64.wrap (((addW .i64 x.1 s4_.2.1) : Int).tdiv 112))), (.int .i64 v7_), (.int .i64 v10_), (.int .i64 s4_.2.1)]) 211 false (0, 0) false) fun b13_ =>
 M.append 211 4 32 s4_.1.1 s4_.1.2.1 s4_.1.2.2 (.slice (some (Addr.mk b13_ 0 none)) 1 1) fun a14_ n15_ c16_ =>
 M.pure (.inl ((a14_, n15_, c16_), (addW .i64 s4_.2.1 (subW .i64 v10_ v7_)), ())))
def f108c1 (X : XT) (L : LoopI) (x : (Int) × (Int) × Unit) (j2_ : (Bool) × Unit) : M (Value) :=
 M.ite j2_.1
 (M.pure (.tuple ⟨[(.slice none 0 0), (.int .i64 39)]⟩))
 (M.bind (L (σ := (SL) × (Int) × Unit) (ρ := ((SL) × Unit) ⊕ (Unit)) (fun s4_ =>
 M.ite (ltB s4_.2.1 x.2.1)
 (M.guard (!(decide (112 = 0)))
 (let v7_ : Int := ((addW .i64 x.1 s4_.2.1) : Int).tmod 112
 f108c0 X L x s4_ v7_ (addW .i64 v7_ x.2.1)))
 (M.pure (.inr (.inl (s4_.1, ()))))) ((none, 0, 0), 0, ())) <| M.sum (fun (j19_ : (SL) × Unit) =>
 M.pure (.tuple ⟨[(.slice j19_.1.1 j19_.1.2.1 j19_.1.2.2), (.int .i64 0)]⟩)) (fun _ => M.stuck))
def f108 (X : XT) (L : LoopI) (x : (Int) × (Int) × Unit) : M Value :=
 M.join (fun (j0_ : (Bool) × Unit) =>
 M.ite j0_.1
 (M.pure (.tuple ⟨[(.slice none 0 0), (.int .i64 1)]⟩))
 (M.join (fun (j2_ : (Bool) × Unit) =>
 f108c1 X L x j2_) fun go3_ =>
 M.ite (ltB 3808 x.1)
 (go3_ (true, ()))
 (go3_ ((ltB (subW .i64 3808 x.1) x.2.1), ())))) fun go1_ =>
 M.ite (ltB x.1 0)
 (go1_ (true, ()))
 (go1_ ((ltB x.2.1 0), ()))

theorem e108 (X : XT) (L : LoopI) (x : (Int) × (Int) × Unit) : evBody CC { call := X, loop := L } 108 (shsInj [(.cell (.int .i64)), (.cell (.int .i64))] x) = f108 X L x := by kernel_rfl

end
end Go.Proofs.YtidadbppnmnfmaaGreatDoor.pa
