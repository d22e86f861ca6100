/-
  What the functions that StoreKnown reaches come to, part 0: each text, and that the reading gives it.
-/
import Derived.Test.YtcfnndmehnppnaaGreatStoreKnownH
import Derived.KernelRfl
set_option linter.unusedVariables false
namespace Go.Proofs.YtcfnndmehnppnaaGreat.storeKnown
open Go Go.Eng
noncomputable section
/-- hayrick/hayricklaw18.StoreKnown -/
def f3 (X : Task → M Value) (L : LoopI) (x : Unit) : M Value :=
 M.callS (.tuple [(.cell .ptr), (.cell .ptr), (.cell .ptr), (.cell .ptr)]) (X (.call 6 [(.int .i64 1), (.int .i64 1), (.int .i64 16)])) fun (r0_ : (Option Addr) × (Option Addr) × (Option Addr) × (Option Addr) × Unit) =>
 M.join (fun (j1_ : (Bool) × Unit) =>
 M.ite j1_.1
 (M.pure (.bool false))
 (M.callS (.one .raw) (X (.call 10 [(.pointer r0_.1)])) fun (r3_ : List Value) =>
 M.new (.cells (zc 36) 36 false (0, 0) false) fun b4_ =>
 cond (Nat.beq r3_.length 64) (M.store (Addr.mk b4_ 0 none) r3_
 (M.guard (decide (0 ≤ 4) && decide (4 < ((64 : Nat) : Int)))
 (M.load (.cell (.int .u32)) 1 ((Addr.mk b4_ 0 none).add ((Int.toNat 4) * 1)) fun (x5_ : Int) =>
 M.guard (decide (0 ≤ 2) && decide (2 < ((64 : Nat) : Int)))
 (M.store ((Addr.mk b4_ 0 none).add ((Int.toNat 2) * 1)) [(.int .u32 x5_)]
 (M.load .raw 64 (Addr.mk b4_ 0 none) fun (x6_ : List Value) =>
 M.callS (.one (.cell .ptr)) (X (.call 12 [(.pointer r0_.1)])) fun (r7_ : Option Addr) =>
 M.load .raw 64 (Addr.mk b4_ 0 none) fun (x8_ : List Value) => cond (veqv (.agg ⟨x8_⟩) (.agg ⟨x6_⟩)) (M.callS (.tuple [(.cell .ptr), (.cell (.int .i64))]) (X (.call 11 [(.pointer r7_), (.agg ⟨x6_⟩)])) fun (r9_ : (Option Addr) × (Int) × Unit) =>
 M.callS (.tuple [(.agg [(.int .i64), (.int .i64), (.int .i64), (.int .i64), (.int .u32), (.int .u32), (.int .u32), (.int .u32), (.int .u32), (.int .u32), (.int .u32)]), (.cell (.int .i64))]) (X (.call 13 [(.pointer r9_.1), (.int .i64 3)])) fun (r10_ : (Int × Int × Int × Int × Int × Int × Int × Int × Int × Int × Int × Unit) × (Int) × Unit) =>
 M.new (.cells [(.int .i64 0), (.int .i64 0), (.int .i64 0), (.int .i64 0), (.int .u32 0), (.int .u32 0), (.int .u32 0), (.int .u32 0), (.int .u32 0), (.int .u32 0), (.int .u32 0)] 34 false (0, 0) false) fun b11_ =>
 M.store (Addr.mk b11_ 0 none) [(.int .i64 r10_.1.1), (.int .i64 r10_.1.2.1), (.int .i64 r10_.1.2.2.1), (.int .i64 r10_.1.2.2.2.1), (.int .u32 r10_.1.2.2.2.2.1), (.int .u32 r10_.1.2.2.2.2.2.1), (.int .u32 r10_.1.2.2.2.2.2.2.1), (.int .u32 r10_.1.2.2.2.2.2.2.2.1), (.int .u32 r10_.1.2.2.2.2.2.2.2.2.1), (.int .u32 r10_.1.2.2.2.2.2.2.2.2.2.1), (.int .u32 r10_.1.2.2.2.2.2.2.2.2.2.2.1)]
 (M.callS (.tuple [(.agg [(.int .i64), (.int .i64), (.int .i64), (.int .i64), (.int .u32), (.int .u32), (.int .u32), (.int .u32), (.int .u32), (.int .u32), (.int .u32)]), (.cell (.int .i64))]) (X (.call 13 [(.pointer r9_.1), (.int .i64 0)])) fun (r12_ : (Int × Int × Int × Int × Int × Int × Int × Int × Int × Int × Int × Unit) × (Int) × Unit) =>
 M.new (.cells [(.int .i64 0), (.int .i64 0), (.int .i64 0), (.int .i64 0), (.int .u32 0), (.int .u32 0), (.int .u32 0), (.int .u32 0), (.int .u32 0), (.int .u32 0), (.int .u32 0)] 34 false (0, 0) false) fun b13_ =>
 M.store (Addr.mk b13_ 0 none) [(.int .i64 r12_.1.1), (.int .i64 r12_.1.2.1), (.int .i64 r12_.1.2.2.1), (.int .i64 r12_.1.2.2.2.1), (.int .u32 r12_.1.2.2.2.2.1), (.int .u32 r12_.1.2.2.2.2.2.1), (.int .u32 r12_.1.2.2.2.2.2.2.1), (.int .u32 r12_.1.2.2.2.2.2.2.2.1), (.int .u32 r12_.1.2.2.2.2.2.2.2.2.1), (.int .u32 r12_.1.2.2.2.2.2.2.2.2.2.1), (.int .u32 r12_.1.2.2.2.2.2.2.2.2.2.2.1)]
 (M.callS (.tuple [(.agg [(.int .i64), (.int .i64), (.int .i64), (.int .i64), (.int .u32), (.int .u32), (.int .u32), (.int .u32), (.int .u32), (.int .u32), (.int .u32)]), (.cell (.int .i64))]) (X (.call 13 [(.pointer r9_.1), (.int .i64 65)])) fun (r14_ : (Int × Int × Int × Int × Int × Int × Int × Int × Int × Int × Int × Unit) × (Int) × Unit) =>
 M.new (.cells [(.int .i64 0), (.int .i64 0), (.int .i64 0), (.int .i64 0), (.int .u32 0), (.int .u32 0), (.int .u32 0), (.int .u32 0), (.int .u32 0), (.int .u32 0), (.int .u32 0)] 34 false (0, 0) false) fun b15_ =>
 M.store (Addr.mk b15_ 0 none) [(.int .i64 r14_.1.1), (.int .i64 r14_.1.2.1), (.int .i64 r14_.1.2.2.1), (.int .i64 r14_.1.2.2.2.1), (.int .u32 r14_.1.2.2.2.2.1), (.int .u32 r14_.1.2.2.2.2.2.1), (.int .u32 r14_.1.2.2.2.2.2.2.1), (.int .u32 r14_.1.2.2.2.2.2.2.2.1), (.int .u32 r14_.1.2.2.2.2.2.2.2.2.1), (.int .u32 r14_.1.2.2.2.2.2.2.2.2.2.1), (.int .u32 r14_.1.2.2.2.2.2.2.2.2.2.2.1)]
 (M.callS (.one (.cell (.int .i64))) (X (.call 8 [(.pointer r9_.1), (.agg ⟨[(.int .i64 0), (.int .i64 0), (.int .i64 0), (.int .i64 0), (.int .u32 0), (.int .u32 0), (.int .u32 0), (.int .u32 0), (.int .u32 0), (.int .u32 0), (.int .u32 0)]⟩), (.bool true)])) fun (r16_ : Int) =>
 M.callS (.one (.cell (.int .i64))) (X (.call 14 [(.pointer r9_.1), (.int .i64 7), (.bool true)])) fun (r17_ : Int) =>
 M.callS (.one (.cell (.int .i64))) (X (.call 14 [(.pointer r9_.1), (.int .i64 65), (.bool true)])) fun (r18_ : Int) =>
 M.guard (decide (0 ≤ 29) && decide (29 ≤ 29) && decide ((4 : Int) * 29 ≤ 2 ^ 48))
 (M.new (.cells (repeatA [(.int .u32 0)] (Int.toNat 29)) 31 false (0, 0) false) fun b19_ =>
 M.callS (.tuple [(.cell (.int .u32)), (.cell (.int .i64))]) (X (.call 15 [(.pointer r9_.1), (.int .i64 1), (.slice (some (Addr.mk b19_ 0 none)) (Int.toNat 29) (Int.toNat 29)), (.bool true)])) fun (r20_ : (Int) × (Int) × Unit) =>
 M.guard (decide (0 ≤ 112) && decide (112 ≤ 112) && decide ((1 : Int) * 112 ≤ 2 ^ 48))
 (M.new (.cells (repeatA [(.int .u8 0)] (Int.toNat 112)) 5 false (0, 0) false) fun b21_ =>
 M.callS (.tuple [(.cell (.int .u32)), (.cell (.int .i64))]) (X (.call 16 [(.pointer r9_.1), (.int .i64 0), (.int .i64 0), (.slice (some (Addr.mk b21_ 0 none)) (Int.toNat 112) (Int.toNat 112)), (.bool true)])) fun (r22_ : (Int) × (Int) × Unit) =>
 M.callS (.tuple [(.cell .slice), (.cell (.int .i64))]) (X (.call 17 [(.pointer r9_.1), (.agg ⟨[(.int .i64 0), (.int .i64 0), (.int .i64 0), (.int .i64 0), (.int .u32 0), (.int .u32 0), (.int .u32 0), (.int .u32 0), (.int .u32 0), (.int .u32 0), (.int .u32 0)]⟩)])) fun (r23_ : ((Option Addr × Nat × Nat)) × (Int) × Unit) =>
 M.guard (decide (0 ≤ 2) && decide (2 < ((64 : Nat) : Int)))
 (M.store ((Addr.mk b4_ 0 none).add ((Int.toNat 2) * 1)) [(.int .u32 3)]
 (M.load .raw 64 (Addr.mk b4_ 0 none) fun (x24_ : List Value) =>
 M.callS (.one (.cell .ptr)) (X (.call 12 [(.pointer r0_.1)])) fun (r25_ : Option Addr) =>
 M.load .raw 64 (Addr.mk b4_ 0 none) fun (x26_ : List Value) => cond (veqv (.agg ⟨x26_⟩) (.agg ⟨x24_⟩)) (M.callS (.tuple [(.cell .ptr), (.cell (.int .i64))]) (X (.call 11 [(.pointer r25_), (.agg ⟨x24_⟩)])) fun (r27_ : (Option Addr) × (Int) × Unit) =>
 M.callS (.tuple [(.agg [(.int .i64), (.int .i64), (.int .i64), (.int .i64), (.int .u32), (.int .u32), (.int .u32), (.int .u32), (.int .u32), (.int .u32), (.int .u32)]), (.cell (.int .i64))]) (X (.call 13 [(.pointer r27_.1), (.int .i64 3)])) fun (r28_ : (Int × Int × Int × Int × Int × Int × Int × Int × Int × Int × Int × Unit) × (Int) × Unit) =>
 M.new (.cells [(.int .i64 0), (.int .i64 0), (.int .i64 0), (.int .i64 0), (.int .u32 0), (.int .u32 0), (.int .u32 0), (.int .u32 0), (.int .u32 0), (.int .u32 0), (.int .u32 0)] 34 false (0, 0) false) fun b29_ =>
 M.store (Addr.mk b29_ 0 none) [(.int .i64 r28_.1.1), (.int .i64 r28_.1.2.1), (.int .i64 r28_.1.2.2.1), (.int .i64 r28_.1.2.2.2.1), (.int .u32 r28_.1.2.2.2.2.1), (.int .u32 r28_.1.2.2.2.2.2.1), (.int .u32 r28_.1.2.2.2.2.2.2.1), (.int .u32 r28_.1.2.2.2.2.2.2.2.1), (.int .u32 r28_.1.2.2.2.2.2.2.2.2.1), (.int .u32 r28_.1.2.2.2.2.2.2.2.2.2.1), (.int .u32 r28_.1.2.2.2.2.2.2.2.2.2.2.1)]
 (M.callS (.tuple [(.agg [(.int .i64), (.int .i64), (.int .i64), (.int .i64), (.int .u32), (.int .u32), (.int .u32), (.int .u32), (.int .u32), (.int .u32), (.int .u32)]), (.cell (.int .i64))]) (X (.call 13 [(.pointer none), (.int .i64 1)])) fun (r30_ : (Int × Int × Int × Int × Int × Int × Int × Int × Int × Int × Int × Unit) × (Int) × Unit) =>
 M.new (.cells [(.int .i64 0), (.int .i64 0), (.int .i64 0), (.int .i64 0), (.int .u32 0), (.int .u32 0), (.int .u32 0), (.int .u32 0), (.int .u32 0), (.int .u32 0), (.int .u32 0)] 34 false (0, 0) false) fun b31_ =>
 M.store (Addr.mk b31_ 0 none) [(.int .i64 r30_.1.1), (.int .i64 r30_.1.2.1), (.int .i64 r30_.1.2.2.1), (.int .i64 r30_.1.2.2.2.1), (.int .u32 r30_.1.2.2.2.2.1), (.int .u32 r30_.1.2.2.2.2.2.1), (.int .u32 r30_.1.2.2.2.2.2.2.1), (.int .u32 r30_.1.2.2.2.2.2.2.2.1), (.int .u32 r30_.1.2.2.2.2.2.2.2.2.1), (.int .u32 r30_.1.2.2.2.2.2.2.2.2.2.1), (.int .u32 r30_.1.2.2.2.2.2.2.2.2.2.2.1)]
 (M.callS (.tuple [(.cell (.int .u32)), (.cell (.int .i64))]) (X (.call 16 [(.pointer none), (.int .i64 1), (.int .i64 0), (.slice none 0 0), (.bool true)])) fun (r32_ : (Int) × (Int) × Unit) =>
 M.callS (.tuple [(.cell (.int .u32)), (.cell (.int .i64))]) (X (.call 15 [(.pointer none), (.int .i64 1), (.slice none 0 0), (.bool true)])) fun (r33_ : (Int) × (Int) × Unit) =>
 M.callS (.one (.agg [(.int .i64), (.int .i64), (.int .i64), (.int .i64), (.int .u32), (.int .u32), (.int .u32), (.int .u32), (.int .u32), (.int .u32), (.int .u32)])) (X (.call 9 [(.int .i64 1)])) fun (r34_ : Int × Int × Int × Int × Int × Int × Int × Int × Int × Int × Int × Unit) =>
 M.callS (.tuple [(.cell .slice), (.cell (.int .i64))]) (X (.call 17 [(.pointer none), (.agg ⟨[(.int .i64 r34_.1), (.int .i64 r34_.2.1), (.int .i64 r34_.2.2.1), (.int .i64 r34_.2.2.2.1), (.int .u32 r34_.2.2.2.2.1), (.int .u32 r34_.2.2.2.2.2.1), (.int .u32 r34_.2.2.2.2.2.2.1), (.int .u32 r34_.2.2.2.2.2.2.2.1), (.int .u32 r34_.2.2.2.2.2.2.2.2.1), (.int .u32 r34_.2.2.2.2.2.2.2.2.2.1), (.int .u32 r34_.2.2.2.2.2.2.2.2.2.2.1)]⟩)])) fun (r35_ : ((Option Addr × Nat × Nat)) × (Int) × Unit) =>
 M.load .raw 64 (Addr.mk b4_ 0 none) fun (x36_ : List Value) =>
 M.callS (.tuple [(.cell .ptr), (.cell (.int .i64))]) (X (.call 11 [(.pointer none), (.agg ⟨x36_⟩)])) fun (r37_ : (Option Addr) × (Int) × Unit) =>
 M.callS (.tuple [(.cell (.int .i64)), (.cell .bool)]) (X (.call 18 [(.pointer none)])) fun (r38_ : (Int) × (Bool) × Unit) =>
 M.join (fun (j39_ : (Bool) × Unit) =>
 M.pure (.bool j39_.1)) fun go40_ =>
 M.ite (r9_.2.1 == 0)
 (M.ite (r10_.2.1 == 5)
 (M.ite (r12_.2.1 == 1)
 (M.ite (r14_.2.1 == 1)
 (M.ite (r16_ == 1)
 (M.ite (r17_ == 6)
 (M.ite (r18_ == 1)
 (M.ite (r20_.2.1 == 1)
 (M.ite (r22_.2.1 == 1)
 (M.ite (r23_.2.1 == 1)
 (M.ite (r28_.2.1 == 6)
 (M.ite (r30_.2.1 == 2)
 (M.ite (r32_.2.1 == 2)
 (M.ite (r33_.2.1 == 2)
 (M.ite (r35_.2.1 == 2)
 (M.ite (r37_.2.1 == 2)
 (M.callS (.one (.agg [(.int .i64), (.int .i64), (.int .i64), (.int .i64), (.int .u32), (.int .u32), (.int .u32), (.int .u32), (.int .u32), (.int .u32), (.int .u32)])) (X (.call 9 [(.int .i64 1)])) fun (r57_ : Int × Int × Int × Int × Int × Int × Int × Int × Int × Int × Int × Unit) =>
 M.callS (.one (.cell (.int .i64))) (X (.call 8 [(.pointer none), (.agg ⟨[(.int .i64 r57_.1), (.int .i64 r57_.2.1), (.int .i64 r57_.2.2.1), (.int .i64 r57_.2.2.2.1), (.int .u32 r57_.2.2.2.2.1), (.int .u32 r57_.2.2.2.2.2.1), (.int .u32 r57_.2.2.2.2.2.2.1), (.int .u32 r57_.2.2.2.2.2.2.2.1), (.int .u32 r57_.2.2.2.2.2.2.2.2.1), (.int .u32 r57_.2.2.2.2.2.2.2.2.2.1), (.int .u32 r57_.2.2.2.2.2.2.2.2.2.2.1)]⟩), (.bool true)])) fun (r58_ : Int) =>
 M.ite (r58_ == 2)
 (M.callS (.one (.cell (.int .i64))) (X (.call 14 [(.pointer none), (.int .i64 1), (.bool true)])) fun (r60_ : Int) =>
 M.ite (r60_ == 2)
 (M.callS (.one (.cell .ptr)) (X (.call 12 [(.pointer none)])) fun (r62_ : Option Addr) =>
 M.eqPtr r62_ none fun (q63_ : Bool) =>
 M.ite q63_
 (M.callS (.one .raw) (X (.call 10 [(.pointer none)])) fun (r64_ : List Value) =>
 aEql PP 36 false false (.agg ⟨r64_⟩) (.agg ⟨[(.int .u32 0), (.int .u32 0), (.int .u32 0), (.int .u32 0), (.int .u32 0), (.int .u32 0), (.int .u32 0), (.int .u32 0), (.int .u32 0), (.int .u32 0), (.int .u32 0), (.int .u32 0), (.int .u32 0), (.int .u32 0), (.int .u32 0), (.int .u32 0), (.int .u32 0), (.int .u32 0), (.int .u32 0), (.int .u32 0), (.int .u32 0), (.int .u32 0), (.int .u32 0), (.int .u32 0), (.int .u32 0), (.int .u32 0), (.int .u32 0), (.int .u32 0), (.int .u32 0), (.int .u32 0), (.int .u32 0), (.int .u32 0), (.int .u32 0), (.int .u32 0), (.int .u32 0), (.int .u32 0), (.int .u32 0), (.int .u32 0), (.int .u32 0), (.int .u32 0), (.int .u32 0), (.int .u32 0), (.int .u32 0), (.int .u32 0), (.int .u32 0), (.int .u32 0), (.int .u32 0), (.int .u32 0), (.int .u32 0), (.int .u32 0), (.int .u32 0), (.int .u32 0), (.int .u32 0), (.int .u32 0), (.int .u32 0), (.int .u32 0), (.int .u32 0), (.int .u32 0), (.int .u32 0), (.int .u32 0), (.int .u32 0), (.int .u32 0), (.int .u32 0), (.int .u32 0)]⟩) fun (q65_ : Bool) =>
 M.ite q65_
 (M.ite (r38_.1 == 0)
 (go40_ ((!r38_.2.1), ()))
 (go40_ (false, ())))
 (go40_ (false, ())))
 (go40_ (false, ())))
 (go40_ (false, ())))
 (go40_ (false, ())))
 (go40_ (false, ())))
 (go40_ (false, ())))
 (go40_ (false, ())))
 (go40_ (false, ())))
 (go40_ (false, ())))
 (go40_ (false, ())))
 (go40_ (false, ())))
 (go40_ (false, ())))
 (go40_ (false, ())))
 (go40_ (false, ())))
 (go40_ (false, ())))
 (go40_ (false, ())))
 (go40_ (false, ())))
 (go40_ (false, ())))
 (go40_ (false, ())))
 (go40_ (false, ()))))) M.stuck)))))))) M.stuck))))) M.stuck)) fun go2_ =>
 M.callS (.one (.cell .bool)) (X (.call 7 [])) fun (r68_ : Bool) =>
 M.ite (!r68_)
 (go2_ (true, ()))
 (M.eqPtr r0_.1 none fun (q70_ : Bool) =>
 M.ite q70_
 (go2_ (true, ()))
 (M.callS (.one (.agg [(.int .i64), (.int .i64), (.int .i64), (.int .i64), (.int .u32), (.int .u32), (.int .u32), (.int .u32), (.int .u32), (.int .u32), (.int .u32)])) (X (.call 9 [(.int .i64 5)])) fun (r71_ : Int × Int × Int × Int × Int × Int × Int × Int × Int × Int × Int × Unit) =>
 M.callS (.one (.cell (.int .i64))) (X (.call 8 [(.pointer r0_.1), (.agg ⟨[(.int .i64 r71_.1), (.int .i64 r71_.2.1), (.int .i64 r71_.2.2.1), (.int .i64 r71_.2.2.2.1), (.int .u32 r71_.2.2.2.2.1), (.int .u32 r71_.2.2.2.2.2.1), (.int .u32 r71_.2.2.2.2.2.2.1), (.int .u32 r71_.2.2.2.2.2.2.2.1), (.int .u32 r71_.2.2.2.2.2.2.2.2.1), (.int .u32 r71_.2.2.2.2.2.2.2.2.2.1), (.int .u32 r71_.2.2.2.2.2.2.2.2.2.2.1)]⟩), (.bool true)])) fun (r72_ : Int) =>
 go2_ ((!(r72_ == 0)), ())))

theorem e3 (X : Task → M Value) (L : LoopI) (x : Unit) : evBody CC { call := X, loop := L } 3 (shsInj [] x) = f3 X L x := by kernel_rfl

/-- hayrick/hayricklaw18.Made -/
def f6 (X : Task → M Value) (L : LoopI) (x : (Int) × (Int) × (Int) × Unit) : M Value :=
 M.callS (.tuple [(.cell .ptr), (.cell .ptr), (.cell .ptr), (.cell .ptr)]) (X (.call 19 [(.int .i64 x.1), (.int .i64 x.2.1), (.int .i64 x.2.2.1)])) fun (r0_ : (Option Addr) × (Option Addr) × (Option Addr) × (Option Addr) × Unit) =>
 M.eqPtr r0_.1 none fun (q1_ : Bool) =>
 M.ite q1_
 (M.pure (.tuple ⟨[(.pointer none), (.pointer none), (.pointer none), (.pointer none)]⟩))
 (M.callS (.tuple [(.cell .ptr), (.cell (.int .i64))]) (X (.call 11 [(.pointer r0_.1), (.agg ⟨[(.int .u32 0), (.int .u32 0), (.int .u32 0), (.int .u32 0), (.int .u32 0), (.int .u32 0), (.int .u32 0), (.int .u32 0), (.int .u32 0), (.int .u32 0), (.int .u32 0), (.int .u32 0), (.int .u32 0), (.int .u32 0), (.int .u32 0), (.int .u32 0), (.int .u32 0), (.int .u32 0), (.int .u32 0), (.int .u32 0), (.int .u32 0), (.int .u32 0), (.int .u32 0), (.int .u32 0), (.int .u32 0), (.int .u32 0), (.int .u32 0), (.int .u32 0), (.int .u32 0), (.int .u32 0), (.int .u32 0), (.int .u32 0), (.int .u32 0), (.int .u32 0), (.int .u32 0), (.int .u32 0), (.int .u32 0), (.int .u32 0), (.int .u32 0), (.int .u32 0), (.int .u32 0), (.int .u32 0), (.int .u32 0), (.int .u32 0), (.int .u32 0), (.int .u32 0), (.int .u32 0), (.int .u32 0), (.int .u32 0), (.int .u32 0), (.int .u32 0), (.int .u32 0), (.int .u32 0), (.int .u32 0), (.int .u32 0), (.int .u32 0), (.int .u32 0), (.int .u32 0), (.int .u32 0), (.int .u32 0), (.int .u32 0), (.int .u32 0), (.int .u32 0), (.int .u32 0)]⟩)])) fun (r2_ : (Option Addr) × (Int) × Unit) =>
 M.ite (!(r2_.2.1 == 0))
 (M.pure (.tuple ⟨[(.pointer none), (.pointer none), (.pointer none), (.pointer none)]⟩))
 (M.new (.cells [(.pointer r0_.2.1), (.int .u32 0), (.int .u32 0), (.int .u32 0), (.int .u32 0), (.int .u32 0), (.int .u32 0), (.int .u32 0), (.int .u32 0), (.int .u32 0), (.int .u32 0), (.int .u32 0), (.int .u32 0), (.int .u32 0), (.int .u32 0), (.int .u32 0), (.int .u32 0), (.int .u32 0), (.int .u32 0), (.int .u32 0), (.int .u32 0), (.int .u32 0), (.int .u32 0), (.int .u32 0), (.int .u32 0), (.int .u32 0), (.int .u32 0), (.int .u32 0), (.int .u32 0), (.int .u32 0), (.int .u32 0), (.int .u32 0), (.int .u32 0), (.int .u32 0), (.int .u32 0), (.int .u32 0), (.int .u32 0), (.int .u32 0), (.int .u32 0), (.int .u32 0), (.int .u32 0), (.int .u32 0), (.int .u32 0), (.int .u32 0), (.int .u32 0), (.int .u32 0), (.int .u32 0), (.int .u32 0), (.int .u32 0), (.int .u32 0), (.int .u32 0), (.int .u32 0), (.int .u32 0), (.int .u32 0), (.int .u32 0), (.int .u32 0), (.int .u32 0), (.int .u32 0), (.int .u32 0), (.int .u32 0), (.int .u32 0), (.int .u32 0), (.int .u32 0), (.int .u32 0), (.int .u32 0)] 87 false (0, 0) false) fun b4_ =>
 M.pure (.tuple ⟨[(.pointer r2_.1), (.pointer (some (Addr.mk b4_ 0 none))), (.pointer r0_.2.2.1), (.pointer r0_.2.1)]⟩)))

theorem e6 (X : Task → M Value) (L : LoopI) (x : (Int) × (Int) × (Int) × Unit) : evBody CC { call := X, loop := L } 6 (shsInj [(.cell (.int .i64)), (.cell (.int .i64)), (.cell (.int .i64))] x) = f6 X L x := by kernel_rfl

/-- hayrick/hayricklaw18.awake -/
def f7 (X : Task → M Value) (L : LoopI) (x : Unit) : M Value :=
 M.callS (.tuple [(.cell .ptr), (.cell .ptr), (.cell .ptr), (.cell .ptr)]) (X (.call 6 [(.int .i64 1), (.int .i64 1), (.int .i64 16)])) fun (r0_ : (Option Addr) × (Option Addr) × (Option Addr) × (Option Addr) × Unit) =>
 M.join (fun (j1_ : (Bool) × Unit) =>
 M.ite j1_.1
 (M.pure (.bool false))
 (M.callS (.tuple [(.agg [(.int .i64), (.int .i64), (.int .i64), (.int .i64), (.int .u32), (.int .u32), (.int .u32), (.int .u32), (.int .u32), (.int .u32), (.int .u32)]), (.cell (.int .i64))]) (X (.call 13 [(.pointer r0_.1), (.int .i64 5)])) fun (r3_ : (Int × Int × Int × Int × Int × Int × Int × Int × Int × Int × Int × Unit) × (Int) × Unit) =>
 M.new (.cells [(.int .i64 0), (.int .i64 0), (.int .i64 0), (.int .i64 0), (.int .u32 0), (.int .u32 0), (.int .u32 0), (.int .u32 0), (.int .u32 0), (.int .u32 0), (.int .u32 0)] 34 false (0, 0) false) fun b4_ =>
 M.store (Addr.mk b4_ 0 none) [(.int .i64 r3_.1.1), (.int .i64 r3_.1.2.1), (.int .i64 r3_.1.2.2.1), (.int .i64 r3_.1.2.2.2.1), (.int .u32 r3_.1.2.2.2.2.1), (.int .u32 r3_.1.2.2.2.2.2.1), (.int .u32 r3_.1.2.2.2.2.2.2.1), (.int .u32 r3_.1.2.2.2.2.2.2.2.1), (.int .u32 r3_.1.2.2.2.2.2.2.2.2.1), (.int .u32 r3_.1.2.2.2.2.2.2.2.2.2.1), (.int .u32 r3_.1.2.2.2.2.2.2.2.2.2.2.1)]
 (M.callS (.tuple [(.agg [(.int .i64), (.int .i64), (.int .i64), (.int .i64), (.int .u32), (.int .u32), (.int .u32), (.int .u32), (.int .u32), (.int .u32), (.int .u32)]), (.cell (.int .i64))]) (X (.call 13 [(.pointer r0_.1), (.int .i64 6)])) fun (r5_ : (Int × Int × Int × Int × Int × Int × Int × Int × Int × Int × Int × Unit) × (Int) × Unit) =>
 M.new (.cells [(.int .i64 0), (.int .i64 0), (.int .i64 0), (.int .i64 0), (.int .u32 0), (.int .u32 0), (.int .u32 0), (.int .u32 0), (.int .u32 0), (.int .u32 0), (.int .u32 0)] 34 false (0, 0) false) fun b6_ =>
 M.store (Addr.mk b6_ 0 none) [(.int .i64 r5_.1.1), (.int .i64 r5_.1.2.1), (.int .i64 r5_.1.2.2.1), (.int .i64 r5_.1.2.2.2.1), (.int .u32 r5_.1.2.2.2.2.1), (.int .u32 r5_.1.2.2.2.2.2.1), (.int .u32 r5_.1.2.2.2.2.2.2.1), (.int .u32 r5_.1.2.2.2.2.2.2.2.1), (.int .u32 r5_.1.2.2.2.2.2.2.2.2.1), (.int .u32 r5_.1.2.2.2.2.2.2.2.2.2.1), (.int .u32 r5_.1.2.2.2.2.2.2.2.2.2.2.1)]
 (M.callS (.tuple [(.cell (.int .i64)), (.cell .bool)]) (X (.call 18 [(.pointer r0_.1)])) fun (r7_ : (Int) × (Bool) × Unit) =>
 M.join (fun (j8_ : (Bool) × Unit) =>
 M.pure (.bool j8_.1)) fun go9_ =>
 M.ite (r3_.2.1 == 0)
 (M.load (.agg [(.int .i64), (.int .i64), (.int .i64), (.int .i64), (.int .u32), (.int .u32), (.int .u32), (.int .u32), (.int .u32), (.int .u32), (.int .u32)]) 11 (Addr.mk b4_ 0 none) fun (x11_ : Int × Int × Int × Int × Int × Int × Int × Int × Int × Int × Int × Unit) =>
 M.callS (.one (.agg [(.int .i64), (.int .i64), (.int .i64), (.int .i64), (.int .u32), (.int .u32), (.int .u32), (.int .u32), (.int .u32), (.int .u32), (.int .u32)])) (X (.call 9 [(.int .i64 5)])) fun (r12_ : Int × Int × Int × Int × Int × Int × Int × Int × Int × Int × Int × Unit) =>
 M.load (.agg [(.int .i64), (.int .i64), (.int .i64), (.int .i64), (.int .u32), (.int .u32), (.int .u32), (.int .u32), (.int .u32), (.int .u32), (.int .u32)]) 11 (Addr.mk b4_ 0 none) fun (x13_ : Int × Int × Int × Int × Int × Int × Int × Int × Int × Int × Int × Unit) => cond (veqv (.agg ⟨[(.int .i64 x13_.1), (.int .i64 x13_.2.1), (.int .i64 x13_.2.2.1), (.int .i64 x13_.2.2.2.1), (.int .u32 x13_.2.2.2.2.1), (.int .u32 x13_.2.2.2.2.2.1), (.int .u32 x13_.2.2.2.2.2.2.1), (.int .u32 x13_.2.2.2.2.2.2.2.1), (.int .u32 x13_.2.2.2.2.2.2.2.2.1), (.int .u32 x13_.2.2.2.2.2.2.2.2.2.1), (.int .u32 x13_.2.2.2.2.2.2.2.2.2.2.1)]⟩) (.agg ⟨[(.int .i64 x11_.1), (.int .i64 x11_.2.1), (.int .i64 x11_.2.2.1), (.int .i64 x11_.2.2.2.1), (.int .u32 x11_.2.2.2.2.1), (.int .u32 x11_.2.2.2.2.2.1), (.int .u32 x11_.2.2.2.2.2.2.1), (.int .u32 x11_.2.2.2.2.2.2.2.1), (.int .u32 x11_.2.2.2.2.2.2.2.2.1), (.int .u32 x11_.2.2.2.2.2.2.2.2.2.1), (.int .u32 x11_.2.2.2.2.2.2.2.2.2.2.1)]⟩)) (aEql PP 34 false false (.agg ⟨[(.int .i64 x11_.1), (.int .i64 x11_.2.1), (.int .i64 x11_.2.2.1), (.int .i64 x11_.2.2.2.1), (.int .u32 x11_.2.2.2.2.1), (.int .u32 x11_.2.2.2.2.2.1), (.int .u32 x11_.2.2.2.2.2.2.1), (.int .u32 x11_.2.2.2.2.2.2.2.1), (.int .u32 x11_.2.2.2.2.2.2.2.2.1), (.int .u32 x11_.2.2.2.2.2.2.2.2.2.1), (.int .u32 x11_.2.2.2.2.2.2.2.2.2.2.1)]⟩) (.agg ⟨[(.int .i64 r12_.1), (.int .i64 r12_.2.1), (.int .i64 r12_.2.2.1), (.int .i64 r12_.2.2.2.1), (.int .u32 r12_.2.2.2.2.1), (.int .u32 r12_.2.2.2.2.2.1), (.int .u32 r12_.2.2.2.2.2.2.1), (.int .u32 r12_.2.2.2.2.2.2.2.1), (.int .u32 r12_.2.2.2.2.2.2.2.2.1), (.int .u32 r12_.2.2.2.2.2.2.2.2.2.1), (.int .u32 r12_.2.2.2.2.2.2.2.2.2.2.1)]⟩) fun (q14_ : Bool) =>
 M.ite q14_
 (M.ite (r5_.2.1 == 6)
 (M.ite (r7_.1 == 1)
 (M.ite r7_.2.1
 (M.callS (.one (.cell (.int .i64))) (X (.call 14 [(.pointer r0_.1), (.int .i64 5), (.bool true)])) fun (r17_ : Int) =>
 M.ite (r17_ == 0)
 (M.callS (.one .raw) (X (.call 10 [(.pointer r0_.1)])) fun (r19_ : List Value) =>
 M.guard (decide (0 ≤ 4) && decide (4 < ((64 : Nat) : Int)))
 (M.need ((r19_[((Int.toNat 4) * 1)]?).bind ((.cell (.int .u32)) : Sh).prj) fun (x20_ : Int) =>
 go9_ ((x20_ == 0), ())))
 (go9_ (false, ())))
 (go9_ (false, ())))
 (go9_ (false, ())))
 (go9_ (false, ())))
 (go9_ (false, ()))) M.stuck)
 (go9_ (false, ())))))) fun go2_ =>
 M.eqPtr r0_.1 none fun (q22_ : Bool) =>
 M.ite q22_
 (go2_ (true, ()))
 (M.callS (.one (.agg [(.int .i64), (.int .i64), (.int .i64), (.int .i64), (.int .u32), (.int .u32), (.int .u32), (.int .u32), (.int .u32), (.int .u32), (.int .u32)])) (X (.call 9 [(.int .i64 5)])) fun (r23_ : Int × Int × Int × Int × Int × Int × Int × Int × Int × Int × Int × Unit) =>
 M.callS (.one (.cell (.int .i64))) (X (.call 8 [(.pointer r0_.1), (.agg ⟨[(.int .i64 r23_.1), (.int .i64 r23_.2.1), (.int .i64 r23_.2.2.1), (.int .i64 r23_.2.2.2.1), (.int .u32 r23_.2.2.2.2.1), (.int .u32 r23_.2.2.2.2.2.1), (.int .u32 r23_.2.2.2.2.2.2.1), (.int .u32 r23_.2.2.2.2.2.2.2.1), (.int .u32 r23_.2.2.2.2.2.2.2.2.1), (.int .u32 r23_.2.2.2.2.2.2.2.2.2.1), (.int .u32 r23_.2.2.2.2.2.2.2.2.2.2.1)]⟩), (.bool true)])) fun (r24_ : Int) =>
 go2_ ((!(r24_ == 0)), ()))

theorem e7 (X : Task → M Value) (L : LoopI) (x : Unit) : evBody CC { call := X, loop := L } 7 (shsInj [] x) = f7 X L x := by kernel_rfl

/-- (*hayrick/store.Store).Save -/
def f8 (X : Task → M Value) (L : LoopI) (x : (Option Addr) × (Int × Int × Int × Int × Int × Int × Int × Int × Int × Int × Int × Unit) × (Bool) × Unit) : M Value :=
 M.new (.cells [(.int .i64 x.2.1.1), (.int .i64 x.2.1.2.1), (.int .i64 x.2.1.2.2.1), (.int .i64 x.2.1.2.2.2.1), (.int .u32 x.2.1.2.2.2.2.1), (.int .u32 x.2.1.2.2.2.2.2.1), (.int .u32 x.2.1.2.2.2.2.2.2.1), (.int .u32 x.2.1.2.2.2.2.2.2.2.1), (.int .u32 x.2.1.2.2.2.2.2.2.2.2.1), (.int .u32 x.2.1.2.2.2.2.2.2.2.2.2.1), (.int .u32 x.2.1.2.2.2.2.2.2.2.2.2.2.1)] 34 false (0, 0) false) fun b0_ =>
 M.load (.agg [(.int .i64), (.int .i64), (.int .i64), (.int .i64), (.int .u32), (.int .u32), (.int .u32), (.int .u32), (.int .u32), (.int .u32), (.int .u32)]) 11 (Addr.mk b0_ 0 none) fun (x1_ : Int × Int × Int × Int × Int × Int × Int × Int × Int × Int × Int × Unit) =>
 M.callS (.tuple [(.cell (.int .u32)), (.cell (.int .i64))]) (X (.call 43 [(.pointer x.1), (.iface 90 (.agg ⟨[(.int .i64 x1_.1), (.int .i64 x1_.2.1), (.int .i64 x1_.2.2.1), (.int .i64 x1_.2.2.2.1), (.int .u32 x1_.2.2.2.2.1), (.int .u32 x1_.2.2.2.2.2.1), (.int .u32 x1_.2.2.2.2.2.2.1), (.int .u32 x1_.2.2.2.2.2.2.2.1), (.int .u32 x1_.2.2.2.2.2.2.2.2.1), (.int .u32 x1_.2.2.2.2.2.2.2.2.2.1), (.int .u32 x1_.2.2.2.2.2.2.2.2.2.2.1)]⟩)), (.bool x.2.2.1)])) fun (r2_ : (Int) × (Int) × Unit) =>
 M.join (fun (j3_ : Unit) =>
 M.pure (.int .i64 r2_.2.1)) fun go4_ =>
 M.ite (r2_.2.1 == 0)
 (M.load (.cell (.int .i64)) 1 ((Addr.mk b0_ 0 none).add 0) fun (x6_ : Int) =>
 let v7_ : Int := IntKind.i64.wrap (x6_ - 1)
 M.deref x.1 fun a8_ =>
 M.guard (decide (0 ≤ v7_) && decide (v7_ < ((64 : Nat) : Int)))
 (M.store ((a8_.add 1).add ((Int.toNat v7_) * 1)) [(.int .u32 r2_.1)]
 (go4_ (()))))
 (go4_ (()))

theorem e8 (X : Task → M Value) (L : LoopI) (x : (Option Addr) × (Int × Int × Int × Int × Int × Int × Int × Int × Int × Int × Int × Unit) × (Bool) × Unit) : evBody CC { call := X, loop := L } 8 (shsInj [(.cell .ptr), (.agg [(.int .i64), (.int .i64), (.int .i64), (.int .i64), (.int .u32), (.int .u32), (.int .u32), (.int .u32), (.int .u32), (.int .u32), (.int .u32)]), (.cell .bool)] x) = f8 X L x := by kernel_rfl

/-- hayrick/hayricklaw18.Empty -/
def f9 (X : Task → M Value) (L : LoopI) (x : (Int) × Unit) : M Value :=
 M.new (.cells [(.int .i64 0), (.int .i64 0), (.int .i64 0), (.int .i64 0), (.int .u32 0), (.int .u32 0), (.int .u32 0), (.int .u32 0), (.int .u32 0), (.int .u32 0), (.int .u32 0)] 34 false (0, 0) false) fun b0_ =>
 M.store (Addr.mk b0_ 0 none) [(.int .i64 x.1), (.int .i64 1), (.int .i64 0), (.int .i64 1), (.int .u32 0), (.int .u32 0), (.int .u32 0), (.int .u32 0), (.int .u32 0), (.int .u32 0), (.int .u32 0)]
 (M.load (.agg [(.int .i64), (.int .i64), (.int .i64), (.int .i64), (.int .u32), (.int .u32), (.int .u32), (.int .u32), (.int .u32), (.int .u32), (.int .u32)]) 11 (Addr.mk b0_ 0 none) fun (x1_ : Int × Int × Int × Int × Int × Int × Int × Int × Int × Int × Int × Unit) =>
 M.pure (.agg ⟨[(.int .i64 x1_.1), (.int .i64 x1_.2.1), (.int .i64 x1_.2.2.1), (.int .i64 x1_.2.2.2.1), (.int .u32 x1_.2.2.2.2.1), (.int .u32 x1_.2.2.2.2.2.1), (.int .u32 x1_.2.2.2.2.2.2.1), (.int .u32 x1_.2.2.2.2.2.2.2.1), (.int .u32 x1_.2.2.2.2.2.2.2.2.1), (.int .u32 x1_.2.2.2.2.2.2.2.2.2.1), (.int .u32 x1_.2.2.2.2.2.2.2.2.2.2.1)]⟩))

theorem e9 (X : Task → M Value) (L : LoopI) (x : (Int) × Unit) : evBody CC { call := X, loop := L } 9 (shsInj [(.cell (.int .i64))] x) = f9 X L x := by kernel_rfl

/-- (*hayrick/store.Store).Map -/
def f10 (X : Task → M Value) (L : LoopI) (x : (Option Addr) × Unit) : M Value :=
 M.new (.cells (zc 36) 36 false (0, 0) false) fun b0_ =>
 M.eqPtr x.1 none fun (q1_ : Bool) =>
 M.ite q1_
 (M.store (Addr.mk b0_ 0 none) [(.int .u32 0), (.int .u32 0), (.int .u32 0), (.int .u32 0), (.int .u32 0), (.int .u32 0), (.int .u32 0), (.int .u32 0), (.int .u32 0), (.int .u32 0), (.int .u32 0), (.int .u32 0), (.int .u32 0), (.int .u32 0), (.int .u32 0), (.int .u32 0), (.int .u32 0), (.int .u32 0), (.int .u32 0), (.int .u32 0), (.int .u32 0), (.int .u32 0), (.int .u32 0), (.int .u32 0), (.int .u32 0), (.int .u32 0), (.int .u32 0), (.int .u32 0), (.int .u32 0), (.int .u32 0), (.int .u32 0), (.int .u32 0), (.int .u32 0), (.int .u32 0), (.int .u32 0), (.int .u32 0), (.int .u32 0), (.int .u32 0), (.int .u32 0), (.int .u32 0), (.int .u32 0), (.int .u32 0), (.int .u32 0), (.int .u32 0), (.int .u32 0), (.int .u32 0), (.int .u32 0), (.int .u32 0), (.int .u32 0), (.int .u32 0), (.int .u32 0), (.int .u32 0), (.int .u32 0), (.int .u32 0), (.int .u32 0), (.int .u32 0), (.int .u32 0), (.int .u32 0), (.int .u32 0), (.int .u32 0), (.int .u32 0), (.int .u32 0), (.int .u32 0), (.int .u32 0)]
 (M.load .raw 64 (Addr.mk b0_ 0 none) fun (x2_ : List Value) =>
 M.pure (.agg ⟨x2_⟩)))
 (M.deref x.1 fun a3_ =>
 M.load .raw 64 (a3_.add 1) fun (x4_ : List Value) =>
 cond (Nat.beq x4_.length 64) (M.store (Addr.mk b0_ 0 none) x4_
 (M.load .raw 64 (Addr.mk b0_ 0 none) fun (x5_ : List Value) =>
 M.pure (.agg ⟨x5_⟩))) M.stuck)

theorem e10 (X : Task → M Value) (L : LoopI) (x : (Option Addr) × Unit) : evBody CC { call := X, loop := L } 10 (shsInj [(.cell .ptr)] x) = f10 X L x := by kernel_rfl

/-- hayrick/store.New -/
def f11 (X : Task → M Value) (L : LoopI) (x : (Option Addr) × (List Value) × Unit) : M Value :=
 M.new (.cells x.2.1 36 false (0, 0) false) fun b0_ =>
 M.callS (.one (.cell .ptr)) (X (.call 36 [(.pointer x.1)])) fun (r1_ : Option Addr) =>
 M.eqPtr r1_ none fun (q2_ : Bool) =>
 M.ite q2_
 (M.pure (.tuple ⟨[(.pointer none), (.int .i64 2)]⟩))
 (M.load .raw 64 (Addr.mk b0_ 0 none) fun (x3_ : List Value) =>
 M.need (fillA (fun i => ([(0, 1), (1, 64)] : List (Nat × Nat))[i]?) (zc 92) [(0, (.pointer x.1)), (1, (.agg ⟨x3_⟩))]) fun x4_ =>
 M.new (.cells x4_ 92 false (0, 0) false) fun b5_ =>
 M.pure (.tuple ⟨[(.pointer (some (Addr.mk b5_ 0 none))), (.int .i64 0)]⟩))

theorem e11 (X : Task → M Value) (L : LoopI) (x : (Option Addr) × (List Value) × Unit) : evBody CC { call := X, loop := L } 11 (shsInj [(.cell .ptr), .raw] x) = f11 X L x := by kernel_rfl

/-- (*hayrick/store.Store).Log -/
def f12 (X : Task → M Value) (L : LoopI) (x : (Option Addr) × Unit) : M Value :=
 M.eqPtr x.1 none fun (q0_ : Bool) =>
 M.ite q0_
 (M.pure (.pointer none))
 (M.deref x.1 fun a1_ =>
 M.load (.cell .ptr) 1 (a1_.add 0) fun (x2_ : Option Addr) =>
 M.pure (.pointer x2_))

theorem e12 (X : Task → M Value) (L : LoopI) (x : (Option Addr) × Unit) : evBody CC { call := X, loop := L } 12 (shsInj [(.cell .ptr)] x) = f12 X L x := by kernel_rfl

/-- (*hayrick/store.Store).Load -/
def f13 (X : Task → M Value) (L : LoopI) (x : (Option Addr) × (Int) × Unit) : M Value :=
 M.new (.cells [(.int .i64 0), (.int .i64 0), (.int .i64 0), (.int .i64 0), (.int .u32 0), (.int .u32 0), (.int .u32 0), (.int .u32 0), (.int .u32 0), (.int .u32 0), (.int .u32 0)] 34 false (0, 0) false) fun b0_ =>
 M.callS (.one (.cell (.int .i64))) (X (.call 44 [(.pointer x.1), (.int .i64 x.2.1)])) fun (r1_ : Int) =>
 M.ite (!(r1_ == 0))
 (M.store (Addr.mk b0_ 0 none) [(.int .i64 0), (.int .i64 0), (.int .i64 0), (.int .i64 0), (.int .u32 0), (.int .u32 0), (.int .u32 0), (.int .u32 0), (.int .u32 0), (.int .u32 0), (.int .u32 0)]
 (M.load (.agg [(.int .i64), (.int .i64), (.int .i64), (.int .i64), (.int .u32), (.int .u32), (.int .u32), (.int .u32), (.int .u32), (.int .u32), (.int .u32)]) 11 (Addr.mk b0_ 0 none) fun (x3_ : Int × Int × Int × Int × Int × Int × Int × Int × Int × Int × Int × Unit) =>
 M.pure (.tuple ⟨[(.agg ⟨[(.int .i64 x3_.1), (.int .i64 x3_.2.1), (.int .i64 x3_.2.2.1), (.int .i64 x3_.2.2.2.1), (.int .u32 x3_.2.2.2.2.1), (.int .u32 x3_.2.2.2.2.2.1), (.int .u32 x3_.2.2.2.2.2.2.1), (.int .u32 x3_.2.2.2.2.2.2.2.1), (.int .u32 x3_.2.2.2.2.2.2.2.2.1), (.int .u32 x3_.2.2.2.2.2.2.2.2.2.1), (.int .u32 x3_.2.2.2.2.2.2.2.2.2.2.1)]⟩), (.int .i64 r1_)]⟩)))
 (let v4_ : Int := IntKind.i64.wrap (x.2.1 - 1)
 M.deref x.1 fun a5_ =>
 M.guard (decide (0 ≤ v4_) && decide (v4_ < ((64 : Nat) : Int)))
 (M.load (.cell (.int .u32)) 1 ((a5_.add 1).add ((Int.toNat v4_) * 1)) fun (x6_ : Int) =>
 M.ite (x6_ == 0)
 (M.store (Addr.mk b0_ 0 none) [(.int .i64 0), (.int .i64 0), (.int .i64 0), (.int .i64 0), (.int .u32 0), (.int .u32 0), (.int .u32 0), (.int .u32 0), (.int .u32 0), (.int .u32 0), (.int .u32 0)]
 (M.load (.agg [(.int .i64), (.int .i64), (.int .i64), (.int .i64), (.int .u32), (.int .u32), (.int .u32), (.int .u32), (.int .u32), (.int .u32), (.int .u32)]) 11 (Addr.mk b0_ 0 none) fun (x8_ : Int × Int × Int × Int × Int × Int × Int × Int × Int × Int × Int × Unit) =>
 M.pure (.tuple ⟨[(.agg ⟨[(.int .i64 x8_.1), (.int .i64 x8_.2.1), (.int .i64 x8_.2.2.1), (.int .i64 x8_.2.2.2.1), (.int .u32 x8_.2.2.2.2.1), (.int .u32 x8_.2.2.2.2.2.1), (.int .u32 x8_.2.2.2.2.2.2.1), (.int .u32 x8_.2.2.2.2.2.2.2.1), (.int .u32 x8_.2.2.2.2.2.2.2.2.1), (.int .u32 x8_.2.2.2.2.2.2.2.2.2.1), (.int .u32 x8_.2.2.2.2.2.2.2.2.2.2.1)]⟩), (.int .i64 6)]⟩)))
 (M.deref x.1 fun a9_ =>
 M.load (.cell .ptr) 1 (a9_.add 0) fun (x10_ : Option Addr) =>
 M.callS (.tuple [(.cell .slice), (.cell (.int .i64))]) (X (.call 24 [(.pointer x10_), (.int .u32 x6_)])) fun (r11_ : ((Option Addr × Nat × Nat)) × (Int) × Unit) =>
 M.ite (!(r11_.2.1 == 0))
 (M.store (Addr.mk b0_ 0 none) [(.int .i64 0), (.int .i64 0), (.int .i64 0), (.int .i64 0), (.int .u32 0), (.int .u32 0), (.int .u32 0), (.int .u32 0), (.int .u32 0), (.int .u32 0), (.int .u32 0)]
 (M.load (.agg [(.int .i64), (.int .i64), (.int .i64), (.int .i64), (.int .u32), (.int .u32), (.int .u32), (.int .u32), (.int .u32), (.int .u32), (.int .u32)]) 11 (Addr.mk b0_ 0 none) fun (x13_ : Int × Int × Int × Int × Int × Int × Int × Int × Int × Int × Int × Unit) =>
 M.pure (.tuple ⟨[(.agg ⟨[(.int .i64 x13_.1), (.int .i64 x13_.2.1), (.int .i64 x13_.2.2.1), (.int .i64 x13_.2.2.2.1), (.int .u32 x13_.2.2.2.2.1), (.int .u32 x13_.2.2.2.2.2.1), (.int .u32 x13_.2.2.2.2.2.2.1), (.int .u32 x13_.2.2.2.2.2.2.2.1), (.int .u32 x13_.2.2.2.2.2.2.2.2.1), (.int .u32 x13_.2.2.2.2.2.2.2.2.2.1), (.int .u32 x13_.2.2.2.2.2.2.2.2.2.2.1)]⟩), (.int .i64 r11_.2.1)]⟩)))
 (M.callS (.tuple [(.agg [(.int .i64), (.int .i64), (.int .i64), (.int .i64), (.int .u32), (.int .u32), (.int .u32), (.int .u32), (.int .u32), (.int .u32), (.int .u32)]), (.cell (.int .i64))]) (X (.call 45 [(.slice r11_.1.1 r11_.1.2.1 r11_.1.2.2)])) fun (r14_ : (Int × Int × Int × Int × Int × Int × Int × Int × Int × Int × Int × Unit) × (Int) × Unit) =>
 M.new (.cells [(.int .i64 0), (.int .i64 0), (.int .i64 0), (.int .i64 0), (.int .u32 0), (.int .u32 0), (.int .u32 0), (.int .u32 0), (.int .u32 0), (.int .u32 0), (.int .u32 0)] 34 false (0, 0) false) fun b15_ =>
 M.store (Addr.mk b15_ 0 none) [(.int .i64 r14_.1.1), (.int .i64 r14_.1.2.1), (.int .i64 r14_.1.2.2.1), (.int .i64 r14_.1.2.2.2.1), (.int .u32 r14_.1.2.2.2.2.1), (.int .u32 r14_.1.2.2.2.2.2.1), (.int .u32 r14_.1.2.2.2.2.2.2.1), (.int .u32 r14_.1.2.2.2.2.2.2.2.1), (.int .u32 r14_.1.2.2.2.2.2.2.2.2.1), (.int .u32 r14_.1.2.2.2.2.2.2.2.2.2.1), (.int .u32 r14_.1.2.2.2.2.2.2.2.2.2.2.1)]
 (M.join (fun (j16_ : (Bool) × Unit) =>
 M.ite j16_.1
 (M.store (Addr.mk b0_ 0 none) [(.int .i64 0), (.int .i64 0), (.int .i64 0), (.int .i64 0), (.int .u32 0), (.int .u32 0), (.int .u32 0), (.int .u32 0), (.int .u32 0), (.int .u32 0), (.int .u32 0)]
 (M.load (.agg [(.int .i64), (.int .i64), (.int .i64), (.int .i64), (.int .u32), (.int .u32), (.int .u32), (.int .u32), (.int .u32), (.int .u32), (.int .u32)]) 11 (Addr.mk b0_ 0 none) fun (x18_ : Int × Int × Int × Int × Int × Int × Int × Int × Int × Int × Int × Unit) =>
 M.pure (.tuple ⟨[(.agg ⟨[(.int .i64 x18_.1), (.int .i64 x18_.2.1), (.int .i64 x18_.2.2.1), (.int .i64 x18_.2.2.2.1), (.int .u32 x18_.2.2.2.2.1), (.int .u32 x18_.2.2.2.2.2.1), (.int .u32 x18_.2.2.2.2.2.2.1), (.int .u32 x18_.2.2.2.2.2.2.2.1), (.int .u32 x18_.2.2.2.2.2.2.2.2.1), (.int .u32 x18_.2.2.2.2.2.2.2.2.2.1), (.int .u32 x18_.2.2.2.2.2.2.2.2.2.2.1)]⟩), (.int .i64 5)]⟩)))
 (M.load (.agg [(.int .i64), (.int .i64), (.int .i64), (.int .i64), (.int .u32), (.int .u32), (.int .u32), (.int .u32), (.int .u32), (.int .u32), (.int .u32)]) 11 (Addr.mk b15_ 0 none) fun (x19_ : Int × Int × Int × Int × Int × Int × Int × Int × Int × Int × Int × Unit) =>
 M.store (Addr.mk b0_ 0 none) [(.int .i64 x19_.1), (.int .i64 x19_.2.1), (.int .i64 x19_.2.2.1), (.int .i64 x19_.2.2.2.1), (.int .u32 x19_.2.2.2.2.1), (.int .u32 x19_.2.2.2.2.2.1), (.int .u32 x19_.2.2.2.2.2.2.1), (.int .u32 x19_.2.2.2.2.2.2.2.1), (.int .u32 x19_.2.2.2.2.2.2.2.2.1), (.int .u32 x19_.2.2.2.2.2.2.2.2.2.1), (.int .u32 x19_.2.2.2.2.2.2.2.2.2.2.1)]
 (M.load (.agg [(.int .i64), (.int .i64), (.int .i64), (.int .i64), (.int .u32), (.int .u32), (.int .u32), (.int .u32), (.int .u32), (.int .u32), (.int .u32)]) 11 (Addr.mk b0_ 0 none) fun (x20_ : Int × Int × Int × Int × Int × Int × Int × Int × Int × Int × Int × Unit) =>
 M.pure (.tuple ⟨[(.agg ⟨[(.int .i64 x20_.1), (.int .i64 x20_.2.1), (.int .i64 x20_.2.2.1), (.int .i64 x20_.2.2.2.1), (.int .u32 x20_.2.2.2.2.1), (.int .u32 x20_.2.2.2.2.2.1), (.int .u32 x20_.2.2.2.2.2.2.1), (.int .u32 x20_.2.2.2.2.2.2.2.1), (.int .u32 x20_.2.2.2.2.2.2.2.2.1), (.int .u32 x20_.2.2.2.2.2.2.2.2.2.1), (.int .u32 x20_.2.2.2.2.2.2.2.2.2.2.1)]⟩), (.int .i64 0)]⟩)))) fun go17_ =>
 M.ite (!(r14_.2.1 == 0))
 (go17_ (true, ()))
 (M.load (.cell (.int .i64)) 1 ((Addr.mk b15_ 0 none).add 0) fun (x22_ : Int) =>
 go17_ ((!(x22_ == x.2.1)), ())))))))

theorem e13 (X : Task → M Value) (L : LoopI) (x : (Option Addr) × (Int) × Unit) : evBody CC { call := X, loop := L } 13 (shsInj [(.cell .ptr), (.cell (.int .i64))] x) = f13 X L x := by kernel_rfl

/-- (*hayrick/store.Store).Gone -/
def f14 (X : Task → M Value) (L : LoopI) (x : (Option Addr) × (Int) × (Bool) × Unit) : M Value :=
 M.callS (.one (.cell (.int .i64))) (X (.call 44 [(.pointer x.1), (.int .i64 x.2.1)])) fun (r0_ : Int) =>
 M.ite (!(r0_ == 0))
 (M.pure (.int .i64 r0_))
 (let v2_ : Int := IntKind.i64.wrap (x.2.1 - 1)
 M.deref x.1 fun a3_ =>
 M.guard (decide (0 ≤ v2_) && decide (v2_ < ((64 : Nat) : Int)))
 (M.load (.cell (.int .u32)) 1 ((a3_.add 1).add ((Int.toNat v2_) * 1)) fun (x4_ : Int) =>
 M.ite (x4_ == 0)
 (M.pure (.int .i64 6))
 (M.callS (.tuple [(.cell (.int .u32)), (.cell (.int .i64))]) (X (.call 43 [(.pointer x.1), (.iface 96 (.agg ⟨[(.int .i64 x.2.1)]⟩)), (.bool x.2.2.1)])) fun (r6_ : (Int) × (Int) × Unit) =>
 M.join (fun (j7_ : Unit) =>
 M.pure (.int .i64 r6_.2.1)) fun go8_ =>
 M.ite (r6_.2.1 == 0)
 (let v10_ : Int := IntKind.i64.wrap (x.2.1 - 1)
 M.deref x.1 fun a11_ =>
 M.guard (decide (0 ≤ v10_) && decide (v10_ < ((64 : Nat) : Int)))
 (M.store ((a11_.add 1).add ((Int.toNat v10_) * 1)) [(.int .u32 0)]
 (go8_ (()))))
 (go8_ (())))))

theorem e14 (X : Task → M Value) (L : LoopI) (x : (Option Addr) × (Int) × (Bool) × Unit) : evBody CC { call := X, loop := L } 14 (shsInj [(.cell .ptr), (.cell (.int .i64)), (.cell .bool)] x) = f14 X L x := by kernel_rfl

/-- (*hayrick/store.Store).Points -/
def f15 (X : Task → M Value) (L : LoopI) (x : (Option Addr) × (Int) × ((Option Addr × Nat × Nat)) × (Bool) × Unit) : M Value :=
 M.callS (.tuple [(.cell (.int .u32)), (.cell (.int .i64))]) (X (.call 43 [(.pointer x.1), (.iface 98 (.agg ⟨[(.int .i64 x.2.1), (.slice x.2.2.1.1 x.2.2.1.2.1 x.2.2.1.2.2)]⟩)), (.bool x.2.2.2.1)])) fun (r0_ : (Int) × (Int) × Unit) =>
 M.pure (.tuple ⟨[(.int .u32 r0_.1), (.int .i64 r0_.2.1)]⟩)

theorem e15 (X : Task → M Value) (L : LoopI) (x : (Option Addr) × (Int) × ((Option Addr × Nat × Nat)) × (Bool) × Unit) : evBody CC { call := X, loop := L } 15 (shsInj [(.cell .ptr), (.cell (.int .i64)), (.cell .slice), (.cell .bool)] x) = f15 X L x := by kernel_rfl

/-- (*hayrick/store.Store).Data -/
def f16 (X : Task → M Value) (L : LoopI) (x : (Option Addr) × (Int) × (Int) × ((Option Addr × Nat × Nat)) × (Bool) × Unit) : M Value :=
 M.callS (.tuple [(.cell (.int .u32)), (.cell (.int .i64))]) (X (.call 43 [(.pointer x.1), (.iface 100 (.agg ⟨[(.int .i64 x.2.1), (.int .i64 x.2.2.1), (.slice x.2.2.2.1.1 x.2.2.2.1.2.1 x.2.2.2.1.2.2)]⟩)), (.bool x.2.2.2.2.1)])) fun (r0_ : (Int) × (Int) × Unit) =>
 M.pure (.tuple ⟨[(.int .u32 r0_.1), (.int .i64 r0_.2.1)]⟩)

theorem e16 (X : Task → M Value) (L : LoopI) (x : (Option Addr) × (Int) × (Int) × ((Option Addr × Nat × Nat)) × (Bool) × Unit) : evBody CC { call := X, loop := L } 16 (shsInj [(.cell .ptr), (.cell (.int .i64)), (.cell (.int .i64)), (.cell .slice), (.cell .bool)] x) = f16 X L x := by kernel_rfl

/-- (*hayrick/store.Store).Pointers -/
def f17 (X : Task → M Value) (L : LoopI) (x : (Option Addr) × (Int × Int × Int × Int × Int × Int × Int × Int × Int × Int × Int × Unit) × Unit) : M Value :=
 M.new (.cells [(.int .i64 x.2.1.1), (.int .i64 x.2.1.2.1), (.int .i64 x.2.1.2.2.1), (.int .i64 x.2.1.2.2.2.1), (.int .u32 x.2.1.2.2.2.2.1), (.int .u32 x.2.1.2.2.2.2.2.1), (.int .u32 x.2.1.2.2.2.2.2.2.1), (.int .u32 x.2.1.2.2.2.2.2.2.2.1), (.int .u32 x.2.1.2.2.2.2.2.2.2.2.1), (.int .u32 x.2.1.2.2.2.2.2.2.2.2.2.1), (.int .u32 x.2.1.2.2.2.2.2.2.2.2.2.2.1)] 34 false (0, 0) false) fun b0_ =>
 M.callS (.one (.cell (.int .i64))) (X (.call 44 [(.pointer x.1), (.int .i64 1)])) fun (r1_ : Int) =>
 M.ite (!(r1_ == 0))
 (M.pure (.tuple ⟨[(.slice none 0 0), (.int .i64 r1_)]⟩))
 (M.load (.agg [(.int .i64), (.int .i64), (.int .i64), (.int .i64), (.int .u32), (.int .u32), (.int .u32), (.int .u32), (.int .u32), (.int .u32), (.int .u32)]) 11 (Addr.mk b0_ 0 none) fun (x3_ : Int × Int × Int × Int × Int × Int × Int × Int × Int × Int × Int × Unit) =>
 M.callS (.one (.cell .bool)) (X (.call 46 [(.agg ⟨[(.int .i64 x3_.1), (.int .i64 x3_.2.1), (.int .i64 x3_.2.2.1), (.int .i64 x3_.2.2.2.1), (.int .u32 x3_.2.2.2.2.1), (.int .u32 x3_.2.2.2.2.2.1), (.int .u32 x3_.2.2.2.2.2.2.1), (.int .u32 x3_.2.2.2.2.2.2.2.1), (.int .u32 x3_.2.2.2.2.2.2.2.2.1), (.int .u32 x3_.2.2.2.2.2.2.2.2.2.1), (.int .u32 x3_.2.2.2.2.2.2.2.2.2.2.1)]⟩)])) fun (r4_ : Bool) =>
 M.ite (!r4_)
 (M.pure (.tuple ⟨[(.slice none 0 0), (.int .i64 1)]⟩))
 (M.join (fun (j6_ : ((Option Addr × Nat × Nat)) × Unit) =>
 M.load (.agg [(.int .i64), (.int .i64), (.int .i64), (.int .i64), (.int .u32), (.int .u32), (.int .u32), (.int .u32), (.int .u32), (.int .u32), (.int .u32)]) 11 (Addr.mk b0_ 0 none) fun (x8_ : Int × Int × Int × Int × Int × Int × Int × Int × Int × Int × Int × Unit) =>
 M.callS (.tuple [(.cell .slice), (.cell (.int .i64))]) (X (.call 48 [(.agg ⟨[(.int .i64 x8_.1), (.int .i64 x8_.2.1), (.int .i64 x8_.2.2.1), (.int .i64 x8_.2.2.2.1), (.int .u32 x8_.2.2.2.2.1), (.int .u32 x8_.2.2.2.2.2.1), (.int .u32 x8_.2.2.2.2.2.2.1), (.int .u32 x8_.2.2.2.2.2.2.2.1), (.int .u32 x8_.2.2.2.2.2.2.2.2.1), (.int .u32 x8_.2.2.2.2.2.2.2.2.2.1), (.int .u32 x8_.2.2.2.2.2.2.2.2.2.2.1)]⟩), (.slice j6_.1.1 j6_.1.2.1 j6_.1.2.2)])) fun (r9_ : ((Option Addr × Nat × Nat)) × (Int) × Unit) =>
 M.pure (.tuple ⟨[(.slice r9_.1.1 r9_.1.2.1 r9_.1.2.2), (.int .i64 r9_.2.1)]⟩)) fun go7_ =>
 M.load (.cell (.int .u32)) 1 ((Addr.mk b0_ 0 none).add 10) fun (x10_ : Int) =>
 M.ite (!(x10_ == 0))
 (M.deref x.1 fun a12_ =>
 M.load (.cell .ptr) 1 (a12_.add 0) fun (x13_ : Option Addr) =>
 M.load (.cell (.int .u32)) 1 ((Addr.mk b0_ 0 none).add 10) fun (x14_ : Int) =>
 M.callS (.tuple [(.cell .slice), (.cell (.int .i64))]) (X (.call 24 [(.pointer x13_), (.int .u32 x14_)])) fun (r15_ : ((Option Addr × Nat × Nat)) × (Int) × Unit) =>
 M.ite (!(r15_.2.1 == 0))
 (M.pure (.tuple ⟨[(.slice none 0 0), (.int .i64 r15_.2.1)]⟩))
 (M.callS (.tuple [(.cell .slice), (.cell (.int .i64))]) (X (.call 47 [(.slice r15_.1.1 r15_.1.2.1 r15_.1.2.2)])) fun (r17_ : ((Option Addr × Nat × Nat)) × (Int) × Unit) =>
 M.ite (!(r17_.2.1 == 0))
 (M.pure (.tuple ⟨[(.slice none 0 0), (.int .i64 r17_.2.1)]⟩))
 (go7_ (r17_.1, ()))))
 (go7_ ((none, 0, 0), ()))))

theorem e17 (X : Task → M Value) (L : LoopI) (x : (Option Addr) × (Int × Int × Int × Int × Int × Int × Int × Int × Int × Int × Int × Unit) × Unit) : evBody CC { call := X, loop := L } 17 (shsInj [(.cell .ptr), (.agg [(.int .i64), (.int .i64), (.int .i64), (.int .i64), (.int .u32), (.int .u32), (.int .u32), (.int .u32), (.int .u32), (.int .u32), (.int .u32)])] x) = f17 X L x := by kernel_rfl

/-- (*hayrick/store.Store).Least -/
def f18 (X : Task → M Value) (L : LoopI) (x : (Option Addr) × Unit) : M Value :=
 M.join (fun (j0_ : (Bool) × Unit) =>
 M.ite j0_.1
 (M.pure (.tuple ⟨[(.int .i64 0), (.bool false)]⟩))
 (M.deref x.1 fun a2_ =>
 M.load .raw 64 (a2_.add 1) fun (x3_ : List Value) =>
 M.bind (L (σ := (Int) × Unit) (ρ := (Unit) ⊕ (((Int) × (Bool) × Unit) ⊕ (Unit))) (fun s4_ =>
 M.ite (decide (s4_.1 < 64))
 (M.guard (decide (0 ≤ s4_.1) && decide (s4_.1 < ((64 : Nat) : Int)))
 (M.need ((x3_[((Int.toNat s4_.1) * 1)]?).bind ((.cell (.int .u32)) : Sh).prj) fun (x6_ : Int) =>
 M.ite (x6_ == 0)
 (M.pure (.inr (.inr (.inl ((IntKind.i64.wrap (s4_.1 + 1)), true, ())))))
 (M.pure (.inl ((IntKind.i64.wrap (s4_.1 + 1)), ())))))
 (M.pure (.inr (.inl (()))))) (0, ())) <| M.sum (fun (j10_ : Unit) =>
 M.pure (.tuple ⟨[(.int .i64 0), (.bool false)]⟩)) (M.sum (fun (j11_ : (Int) × (Bool) × Unit) =>
 M.pure (.tuple ⟨[(.int .i64 j11_.1), (.bool j11_.2.1)]⟩)) (fun _ => M.stuck)))) fun go1_ =>
 M.eqPtr x.1 none fun (q12_ : Bool) =>
 M.ite q12_
 (go1_ (true, ()))
 (M.deref x.1 fun a13_ =>
 M.load (.cell .ptr) 1 (a13_.add 0) fun (x14_ : Option Addr) =>
 M.eqPtr x14_ none fun (q15_ : Bool) =>
 go1_ (q15_, ()))

theorem e18 (X : Task → M Value) (L : LoopI) (x : (Option Addr) × Unit) : evBody CC { call := X, loop := L } 18 (shsInj [(.cell .ptr)] x) = f18 X L x := by kernel_rfl

/-- hayrick/hayricklaw17.Made -/
def f19 (X : Task → M Value) (L : LoopI) (x : (Int) × (Int) × (Int) × Unit) : M Value :=
 M.callS (.tuple [(.cell .ptr), (.cell .ptr)]) (X (.call 49 [(.int .i64 x.1), (.int .i64 x.2.1), (.int .i64 x.2.2.1), (.int .i64 0)])) fun (r0_ : (Option Addr) × (Option Addr) × Unit) =>
 M.eqPtr r0_.1 none fun (q1_ : Bool) =>
 M.ite q1_
 (M.pure (.tuple ⟨[(.pointer none), (.pointer none), (.pointer none), (.pointer none)]⟩))
 (M.guard (decide (0 ≤ x.2.2.1) && decide (x.2.2.1 ≤ x.2.2.1) && decide ((8 : Int) * x.2.2.1 ≤ 2 ^ 48))
 (M.new (.cells (repeatA [(.int .u64 0)] (Int.toNat x.2.2.1)) 75 false (0, 0) false) fun b2_ =>
 M.callS (.one (.cell .slice)) (X (.call 50 [(.int .i64 x.2.2.1)])) fun (r3_ : (Option Addr × Nat × Nat)) =>
 M.callS (.tuple [(.cell .ptr), (.cell (.int .i64))]) (X (.call 30 [(.pointer r0_.1), (.int .u64 1), (.slice (some (Addr.mk b2_ 0 none)) (Int.toNat x.2.2.1) (Int.toNat x.2.2.1)), (.slice r3_.1 r3_.2.1 r3_.2.2)])) fun (r4_ : (Option Addr) × (Int) × Unit) =>
 M.guard (decide (0 ≤ x.2.2.1) && decide (x.2.2.1 ≤ x.2.2.1) && decide ((8 : Int) * x.2.2.1 ≤ 2 ^ 48))
 (M.new (.cells (repeatA [(.int .u64 0)] (Int.toNat x.2.2.1)) 75 false (0, 0) false) fun b5_ =>
 M.callS (.one (.cell .slice)) (X (.call 50 [(.int .i64 x.2.2.1)])) fun (r6_ : (Option Addr × Nat × Nat)) =>
 M.callS (.tuple [(.cell .ptr), (.cell (.int .i64))]) (X (.call 51 [(.pointer r0_.2.1), (.int .u64 1), (.slice (some (Addr.mk b5_ 0 none)) (Int.toNat x.2.2.1) (Int.toNat x.2.2.1)), (.slice r6_.1 r6_.2.1 r6_.2.2)])) fun (r7_ : (Option Addr) × (Int) × Unit) =>
 M.join (fun (j8_ : (Bool) × Unit) =>
 M.ite j8_.1
 (M.pure (.tuple ⟨[(.pointer none), (.pointer none), (.pointer none), (.pointer none)]⟩))
 (M.pure (.tuple ⟨[(.pointer r4_.1), (.pointer r7_.1), (.pointer r0_.1), (.pointer r0_.2.1)]⟩))) fun go9_ =>
 M.ite (!(r4_.2.1 == 0))
 (go9_ (true, ()))
 (go9_ ((!(r7_.2.1 == 0)), ())))))

theorem e19 (X : Task → M Value) (L : LoopI) (x : (Int) × (Int) × (Int) × Unit) : evBody CC { call := X, loop := L } 19 (shsInj [(.cell (.int .i64)), (.cell (.int .i64)), (.cell (.int .i64))] x) = f19 X L x := by kernel_rfl

/-- (*hayrick/logs.Log).Append -/
def f21 (X : Task → M Value) (L : LoopI) (x : (Option Addr) × (Int × Bool × Int × Int × Unit) × ((Option Addr × Nat × Nat)) × Unit) : M Value :=
 M.new (.cells [(.pointer x.1)] 40 false (0, 0) false) fun b0_ =>
 M.new (.cells [(.int .i64 x.2.1.1), (.bool x.2.1.2.1), (.int .i64 x.2.1.2.2.1), (.int .i64 x.2.1.2.2.2.1)] 58 false (0, 0) false) fun b1_ =>
 M.new (.cells [(.slice x.2.2.1.1 x.2.2.1.2.1 x.2.2.1.2.2)] 49 false (0, 0) false) fun b2_ =>
 M.new (.cells [(.int .u32 0)] 31 false (0, 0) false) fun b3_ =>
 M.load (.cell .ptr) 1 (Addr.mk b0_ 0 none) fun (x4_ : Option Addr) =>
 M.callS (.one (.cell (.int .i64))) (X (.call 52 [(.pointer x4_), (.func (.func 53) ⟨[]⟩ ⟨[(.pointer (some (Addr.mk b1_ 0 none))), (.pointer (some (Addr.mk b2_ 0 none))), (.pointer (some (Addr.mk b0_ 0 none))), (.pointer (some (Addr.mk b3_ 0 none)))]⟩)])) fun (r5_ : Int) =>
 M.ite (!(r5_ == 0))
 (M.store (Addr.mk b3_ 0 none) [(.int .u32 0)]
 (M.load (.cell (.int .u32)) 1 (Addr.mk b3_ 0 none) fun (x7_ : Int) =>
 M.pure (.tuple ⟨[(.int .u32 x7_), (.int .i64 r5_)]⟩)))
 (M.load (.cell (.int .u32)) 1 (Addr.mk b3_ 0 none) fun (x8_ : Int) =>
 M.store (Addr.mk b3_ 0 none) [(.int .u32 x8_)]
 (M.load (.cell (.int .u32)) 1 (Addr.mk b3_ 0 none) fun (x9_ : Int) =>
 M.pure (.tuple ⟨[(.int .u32 x9_), (.int .i64 0)]⟩)))

theorem e21 (X : Task → M Value) (L : LoopI) (x : (Option Addr) × (Int × Bool × Int × Int × Unit) × ((Option Addr × Nat × Nat)) × Unit) : evBody CC { call := X, loop := L } 21 (shsInj [(.cell .ptr), (.agg [(.int .i64), .bool, (.int .i64), (.int .i64)]), (.cell .slice)] x) = f21 X L x := by kernel_rfl

/-- (*hayrick/logs.Log).Block -/
def f24 (X : Task → M Value) (L : LoopI) (x : (Option Addr) × (Int) × Unit) : M Value :=
 M.new (.cells [(.pointer x.1)] 40 false (0, 0) false) fun b0_ =>
 M.new (.cells [(.int .u32 x.2.1)] 31 false (0, 0) false) fun b1_ =>
 M.new (.cells [(.slice none 0 0)] 49 false (0, 0) false) fun b2_ =>
 M.load (.cell .ptr) 1 (Addr.mk b0_ 0 none) fun (x3_ : Option Addr) =>
 M.callS (.one (.cell (.int .i64))) (X (.call 52 [(.pointer x3_), (.func (.func 64) ⟨[]⟩ ⟨[(.pointer (some (Addr.mk b0_ 0 none))), (.pointer (some (Addr.mk b1_ 0 none))), (.pointer (some (Addr.mk b2_ 0 none)))]⟩)])) fun (r4_ : Int) =>
 M.load (.cell .slice) 1 (Addr.mk b2_ 0 none) fun (x5_ : (Option Addr × Nat × Nat)) =>
 M.store (Addr.mk b2_ 0 none) [(.slice x5_.1 x5_.2.1 x5_.2.2)]
 (M.load (.cell .slice) 1 (Addr.mk b2_ 0 none) fun (x6_ : (Option Addr × Nat × Nat)) =>
 M.pure (.tuple ⟨[(.slice x6_.1 x6_.2.1 x6_.2.2), (.int .i64 r4_)]⟩))

theorem e24 (X : Task → M Value) (L : LoopI) (x : (Option Addr) × (Int) × Unit) : evBody CC { call := X, loop := L } 24 (shsInj [(.cell .ptr), (.cell (.int .u32))] x) = f24 X L x := by kernel_rfl

/-- (*hayrick/stripe.Stripes).Array -/
def f28 (X : Task → M Value) (L : LoopI) (x : (Option Addr) × Unit) : M Value :=
 M.eqPtr x.1 none fun (q0_ : Bool) =>
 M.ite q0_
 (M.pure (.pointer none))
 (M.deref x.1 fun a1_ =>
 M.load (.cell .ptr) 1 (a1_.add 0) fun (x2_ : Option Addr) =>
 M.pure (.pointer x2_))

theorem e28 (X : Task → M Value) (L : LoopI) (x : (Option Addr) × Unit) : evBody CC { call := X, loop := L } 28 (shsInj [(.cell .ptr)] x) = f28 X L x := by kernel_rfl

/-- hayrick/logs.New -/
def f30 (X : Task → M Value) (L : LoopI) (x : (Option Addr) × (Int) × ((Option Addr × Nat × Nat)) × ((Option Addr × Nat × Nat)) × Unit) : M Value :=
 M.callS (.one (.cell .ptr)) (X (.call 28 [(.pointer x.1)])) fun (r0_ : Option Addr) =>
 M.eqPtr r0_ none fun (q1_ : Bool) =>
 M.ite q1_
 (M.pure (.tuple ⟨[(.pointer none), (.int .i64 2)]⟩))
 (M.callS (.one (.agg [(.int .i64), (.int .i64), (.int .i64)])) (X (.call 74 [(.pointer x.1)])) fun (r2_ : Int × Int × Int × Unit) =>
 M.join (fun (j3_ : (Bool) × Unit) =>
 M.ite j3_.1
 (M.pure (.tuple ⟨[(.pointer none), (.int .i64 1)]⟩))
 (M.callS (.one (.cell .slice)) (X (.call 75 [(.slice x.2.2.1.1 x.2.2.1.2.1 x.2.2.1.2.2)])) fun (r5_ : (Option Addr × Nat × Nat)) =>
 M.callS (.one (.cell .slice)) (X (.call 73 [(.slice x.2.2.2.1.1 x.2.2.2.1.2.1 x.2.2.2.1.2.2)])) fun (r6_ : (Option Addr × Nat × Nat)) =>
 M.new (.cells [(.pointer x.1), (.int .u64 x.2.1), (.slice r5_.1 r5_.2.1 r5_.2.2), (.slice r6_.1 r6_.2.1 r6_.2.2), (.int .i64 (-1)), (.slice none 0 0), (.slice none 0 0), (.bool false)] 113 false (0, 0) false) fun b7_ =>
 M.pure (.tuple ⟨[(.pointer (some (Addr.mk b7_ 0 none))), (.int .i64 0)]⟩))) fun go4_ =>
 M.ite (x.2.1 == 0)
 (go4_ (true, ()))
 (M.ite (!(((x.2.2.1.2.1 : Nat) : Int) == r2_.2.2.1))
 (go4_ (true, ()))
 (M.callS (.one (.cell .bool)) (X (.call 72 [(.slice x.2.2.2.1.1 x.2.2.2.1.2.1 x.2.2.2.1.2.2), (.int .i64 r2_.2.2.1), (.int .i64 (-1))])) fun (r11_ : Bool) =>
 go4_ ((!r11_), ()))))

theorem e30 (X : Task → M Value) (L : LoopI) (x : (Option Addr) × (Int) × ((Option Addr × Nat × Nat)) × ((Option Addr × Nat × Nat)) × Unit) : evBody CC { call := X, loop := L } 30 (shsInj [(.cell .ptr), (.cell (.int .u64)), (.cell .slice), (.cell .slice)] x) = f30 X L x := by kernel_rfl

/-- (*hayrick/logs.Log).Stripes -/
def f36 (X : Task → M Value) (L : LoopI) (x : (Option Addr) × Unit) : M Value :=
 M.eqPtr x.1 none fun (q0_ : Bool) =>
 M.ite q0_
 (M.pure (.pointer none))
 (M.deref x.1 fun a1_ =>
 M.load (.cell .ptr) 1 (a1_.add 0) fun (x2_ : Option Addr) =>
 M.pure (.pointer x2_))

theorem e36 (X : Task → M Value) (L : LoopI) (x : (Option Addr) × Unit) : evBody CC { call := X, loop := L } 36 (shsInj [(.cell .ptr)] x) = f36 X L x := by kernel_rfl

/-- (*hayrick/store.Store).put -/
def f43 (X : Task → M Value) (L : LoopI) (x : (Option Addr) × (Value) × (Bool) × Unit) : M Value :=
 M.callS (.one (.cell (.int .i64))) (X (.call 44 [(.pointer x.1), (.int .i64 1)])) fun (r0_ : Int) =>
 M.ite (!(r0_ == 0))
 (M.pure (.tuple ⟨[(.int .u32 0), (.int .i64 r0_)]⟩))
 (match x.2.1 with
 | .iface t2_ y3_ => M.need (methodA CC t2_ "hayrick/store.block") fun f4_ => callF CC ⟨X, L⟩ f4_ (y3_ :: []) fun w5_ => M.need (RSh.prj (.tuple [(.cell .slice), (.cell (.int .i64))]) w5_) fun (r6_ : ((Option Addr × Nat × Nat)) × (Int) × Unit) =>
 (M.ite (!(r6_.2.1 == 0))
 (M.pure (.tuple ⟨[(.int .u32 0), (.int .i64 r6_.2.1)]⟩))
 (match x.2.1 with
 | .iface t8_ y9_ => M.need (methodA CC t8_ "hayrick/store.record") fun f10_ => callF CC ⟨X, L⟩ f10_ (y9_ :: []) fun w11_ => M.need (RSh.prj (.one (.agg [(.int .i64), .bool, (.int .i64), (.int .i64)])) w11_) fun (r12_ : Int × Bool × Int × Int × Unit) =>
 (M.new (.cells [(.int .i64 0), (.bool false), (.int .i64 0), (.int .i64 0)] 58 false (0, 0) false) fun b13_ =>
 M.store (Addr.mk b13_ 0 none) [(.int .i64 r12_.1), (.bool r12_.2.1), (.int .i64 r12_.2.2.1), (.int .i64 r12_.2.2.2.1)]
 (M.store ((Addr.mk b13_ 0 none).add 1) [(.bool x.2.2.1)]
 (M.deref x.1 fun a14_ =>
 M.load (.cell .ptr) 1 (a14_.add 0) fun (x15_ : Option Addr) =>
 M.load (.agg [(.int .i64), .bool, (.int .i64), (.int .i64)]) 4 (Addr.mk b13_ 0 none) fun (x16_ : Int × Bool × Int × Int × Unit) =>
 M.callS (.tuple [(.cell (.int .u32)), (.cell (.int .i64))]) (X (.call 21 [(.pointer x15_), (.agg ⟨[(.int .i64 x16_.1), (.bool x16_.2.1), (.int .i64 x16_.2.2.1), (.int .i64 x16_.2.2.2.1)]⟩), (.slice r6_.1.1 r6_.1.2.1 r6_.1.2.2)])) fun (r17_ : (Int) × (Int) × Unit) =>
 M.pure (.tuple ⟨[(.int .u32 r17_.1), (.int .i64 r17_.2.1)]⟩))))
 | _ => M.stuck))
 | _ => M.stuck)

theorem e43 (X : Task → M Value) (L : LoopI) (x : (Option Addr) × (Value) × (Bool) × Unit) : evBody CC { call := X, loop := L } 43 (shsInj [(.cell .ptr), (.cell .val), (.cell .bool)] x) = f43 X L x := by kernel_rfl

/-- (*hayrick/store.Store).right -/
def f44 (X : Task → M Value) (L : LoopI) (x : (Option Addr) × (Int) × Unit) : M Value :=
 M.join (fun (j0_ : (Bool) × Unit) =>
 M.ite j0_.1
 (M.pure (.int .i64 2))
 (M.join (fun (j2_ : (Bool) × Unit) =>
 M.ite j2_.1
 (M.pure (.int .i64 1))
 (M.pure (.int .i64 0))) fun go3_ =>
 M.ite (decide (x.2.1 < 1))
 (go3_ (true, ()))
 (go3_ ((decide (x.2.1 > 64)), ())))) fun go1_ =>
 M.eqPtr x.1 none fun (q6_ : Bool) =>
 M.ite q6_
 (go1_ (true, ()))
 (M.deref x.1 fun a7_ =>
 M.load (.cell .ptr) 1 (a7_.add 0) fun (x8_ : Option Addr) =>
 M.eqPtr x8_ none fun (q9_ : Bool) =>
 go1_ (q9_, ()))

theorem e44 (X : Task → M Value) (L : LoopI) (x : (Option Addr) × (Int) × Unit) : evBody CC { call := X, loop := L } 44 (shsInj [(.cell .ptr), (.cell (.int .i64))] x) = f44 X L x := by kernel_rfl

/-- hayrick/inode.Take -/
def f45 (X : Task → M Value) (L : LoopI) (x : ((Option Addr × Nat × Nat)) × Unit) : M Value :=
 M.new (.cells [(.int .i64 0), (.int .i64 0), (.int .i64 0), (.int .i64 0), (.int .u32 0), (.int .u32 0), (.int .u32 0), (.int .u32 0), (.int .u32 0), (.int .u32 0), (.int .u32 0)] 34 false (0, 0) false) fun b0_ =>
 M.ite (decide (((x.1.2.1 : Nat) : Int) < 112))
 (M.store (Addr.mk b0_ 0 none) [(.int .i64 0), (.int .i64 0), (.int .i64 0), (.int .i64 0), (.int .u32 0), (.int .u32 0), (.int .u32 0), (.int .u32 0), (.int .u32 0), (.int .u32 0), (.int .u32 0)]
 (M.load (.agg [(.int .i64), (.int .i64), (.int .i64), (.int .i64), (.int .u32), (.int .u32), (.int .u32), (.int .u32), (.int .u32), (.int .u32), (.int .u32)]) 11 (Addr.mk b0_ 0 none) fun (x3_ : Int × Int × Int × Int × Int × Int × Int × Int × Int × Int × Int × Unit) =>
 M.pure (.tuple ⟨[(.agg ⟨[(.int .i64 x3_.1), (.int .i64 x3_.2.1), (.int .i64 x3_.2.2.1), (.int .i64 x3_.2.2.2.1), (.int .u32 x3_.2.2.2.2.1), (.int .u32 x3_.2.2.2.2.2.1), (.int .u32 x3_.2.2.2.2.2.2.1), (.int .u32 x3_.2.2.2.2.2.2.2.1), (.int .u32 x3_.2.2.2.2.2.2.2.2.1), (.int .u32 x3_.2.2.2.2.2.2.2.2.2.1), (.int .u32 x3_.2.2.2.2.2.2.2.2.2.2.1)]⟩), (.int .i64 4)]⟩)))
 (M.ite (decide (((x.1.2.1 : Nat) : Int) > 112))
 (M.store (Addr.mk b0_ 0 none) [(.int .i64 0), (.int .i64 0), (.int .i64 0), (.int .i64 0), (.int .u32 0), (.int .u32 0), (.int .u32 0), (.int .u32 0), (.int .u32 0), (.int .u32 0), (.int .u32 0)]
 (M.load (.agg [(.int .i64), (.int .i64), (.int .i64), (.int .i64), (.int .u32), (.int .u32), (.int .u32), (.int .u32), (.int .u32), (.int .u32), (.int .u32)]) 11 (Addr.mk b0_ 0 none) fun (x6_ : Int × Int × Int × Int × Int × Int × Int × Int × Int × Int × Int × Unit) =>
 M.pure (.tuple ⟨[(.agg ⟨[(.int .i64 x6_.1), (.int .i64 x6_.2.1), (.int .i64 x6_.2.2.1), (.int .i64 x6_.2.2.2.1), (.int .u32 x6_.2.2.2.2.1), (.int .u32 x6_.2.2.2.2.2.1), (.int .u32 x6_.2.2.2.2.2.2.1), (.int .u32 x6_.2.2.2.2.2.2.2.1), (.int .u32 x6_.2.2.2.2.2.2.2.2.1), (.int .u32 x6_.2.2.2.2.2.2.2.2.2.1), (.int .u32 x6_.2.2.2.2.2.2.2.2.2.2.1)]⟩), (.int .i64 3)]⟩)))
 (M.new (.cells [(.slice none 0 0)] 49 false (0, 0) false) fun b7_ =>
 M.store (Addr.mk b7_ 0 none) [(.slice x.1.1 x.1.2.1 x.1.2.2)]
 (M.callS (.one (.cell (.int .i64))) (X (.call 88 [(.int .i64 2), (.pointer (some (Addr.mk b7_ 0 none)))])) fun (r8_ : Int) =>
 M.callS (.one (.cell (.int .i64))) (X (.call 88 [(.int .i64 1), (.pointer (some (Addr.mk b7_ 0 none)))])) fun (r9_ : Int) =>
 M.callS (.one (.cell (.int .i64))) (X (.call 88 [(.int .i64 1), (.pointer (some (Addr.mk b7_ 0 none)))])) fun (r10_ : Int) =>
 M.callS (.one (.cell (.int .i64))) (X (.call 88 [(.int .i64 2), (.pointer (some (Addr.mk b7_ 0 none)))])) fun (r11_ : Int) =>
 M.new (.cells [(.int .i64 0), (.int .i64 0), (.int .i64 0), (.int .i64 0), (.int .u32 0), (.int .u32 0), (.int .u32 0), (.int .u32 0), (.int .u32 0), (.int .u32 0), (.int .u32 0)] 34 false (0, 0) false) fun b12_ =>
 M.store (Addr.mk b12_ 0 none) [(.int .i64 r8_), (.int .i64 r9_), (.int .i64 r11_), (.int .i64 r10_), (.int .u32 0), (.int .u32 0), (.int .u32 0), (.int .u32 0), (.int .u32 0), (.int .u32 0), (.int .u32 0)]
 (M.bind (L (σ := (Int) × Unit) (ρ := (Unit) ⊕ (Unit)) (fun s13_ =>
 M.ite (decide (s13_.1 < 6))
 (M.callS (.one (.cell (.int .i64))) (X (.call 88 [(.int .i64 4), (.pointer (some (Addr.mk b7_ 0 none)))])) fun (r15_ : Int) =>
 M.guard (decide (0 ≤ s13_.1) && decide (s13_.1 < ((6 : Nat) : Int)))
 (M.store (((Addr.mk b12_ 0 none).add 4).add ((Int.toNat s13_.1) * 1)) [(.int .u32 (IntKind.u32.wrap r15_))]
 (M.pure (.inl ((IntKind.i64.wrap (s13_.1 + 1)), ())))))
 (M.pure (.inr (.inl (()))))) (0, ())) <| M.sum (fun (j18_ : Unit) =>
 M.callS (.one (.cell (.int .i64))) (X (.call 88 [(.int .i64 4), (.pointer (some (Addr.mk b7_ 0 none)))])) fun (r19_ : Int) =>
 M.store ((Addr.mk b12_ 0 none).add 10) [(.int .u32 (IntKind.u32.wrap r19_))]
 (M.load (.agg [(.int .i64), (.int .i64), (.int .i64), (.int .i64), (.int .u32), (.int .u32), (.int .u32), (.int .u32), (.int .u32), (.int .u32), (.int .u32)]) 11 (Addr.mk b12_ 0 none) fun (x21_ : Int × Int × Int × Int × Int × Int × Int × Int × Int × Int × Int × Unit) =>
 M.callS (.tuple [(.cell .slice), (.cell (.int .i64))]) (X (.call 89 [(.agg ⟨[(.int .i64 x21_.1), (.int .i64 x21_.2.1), (.int .i64 x21_.2.2.1), (.int .i64 x21_.2.2.2.1), (.int .u32 x21_.2.2.2.2.1), (.int .u32 x21_.2.2.2.2.2.1), (.int .u32 x21_.2.2.2.2.2.2.1), (.int .u32 x21_.2.2.2.2.2.2.2.1), (.int .u32 x21_.2.2.2.2.2.2.2.2.1), (.int .u32 x21_.2.2.2.2.2.2.2.2.2.1), (.int .u32 x21_.2.2.2.2.2.2.2.2.2.2.1)]⟩)])) fun (r22_ : ((Option Addr × Nat × Nat)) × (Int) × Unit) =>
 M.join (fun (j23_ : (Bool) × Unit) =>
 M.ite j23_.1
 (M.store (Addr.mk b0_ 0 none) [(.int .i64 0), (.int .i64 0), (.int .i64 0), (.int .i64 0), (.int .u32 0), (.int .u32 0), (.int .u32 0), (.int .u32 0), (.int .u32 0), (.int .u32 0), (.int .u32 0)]
 (M.load (.agg [(.int .i64), (.int .i64), (.int .i64), (.int .i64), (.int .u32), (.int .u32), (.int .u32), (.int .u32), (.int .u32), (.int .u32), (.int .u32)]) 11 (Addr.mk b0_ 0 none) fun (x25_ : Int × Int × Int × Int × Int × Int × Int × Int × Int × Int × Int × Unit) =>
 M.pure (.tuple ⟨[(.agg ⟨[(.int .i64 x25_.1), (.int .i64 x25_.2.1), (.int .i64 x25_.2.2.1), (.int .i64 x25_.2.2.2.1), (.int .u32 x25_.2.2.2.2.1), (.int .u32 x25_.2.2.2.2.2.1), (.int .u32 x25_.2.2.2.2.2.2.1), (.int .u32 x25_.2.2.2.2.2.2.2.1), (.int .u32 x25_.2.2.2.2.2.2.2.2.1), (.int .u32 x25_.2.2.2.2.2.2.2.2.2.1), (.int .u32 x25_.2.2.2.2.2.2.2.2.2.2.1)]⟩), (.int .i64 5)]⟩)))
 (M.load (.agg [(.int .i64), (.int .i64), (.int .i64), (.int .i64), (.int .u32), (.int .u32), (.int .u32), (.int .u32), (.int .u32), (.int .u32), (.int .u32)]) 11 (Addr.mk b12_ 0 none) fun (x26_ : Int × Int × Int × Int × Int × Int × Int × Int × Int × Int × Int × Unit) =>
 M.store (Addr.mk b0_ 0 none) [(.int .i64 x26_.1), (.int .i64 x26_.2.1), (.int .i64 x26_.2.2.1), (.int .i64 x26_.2.2.2.1), (.int .u32 x26_.2.2.2.2.1), (.int .u32 x26_.2.2.2.2.2.1), (.int .u32 x26_.2.2.2.2.2.2.1), (.int .u32 x26_.2.2.2.2.2.2.2.1), (.int .u32 x26_.2.2.2.2.2.2.2.2.1), (.int .u32 x26_.2.2.2.2.2.2.2.2.2.1), (.int .u32 x26_.2.2.2.2.2.2.2.2.2.2.1)]
 (M.load (.agg [(.int .i64), (.int .i64), (.int .i64), (.int .i64), (.int .u32), (.int .u32), (.int .u32), (.int .u32), (.int .u32), (.int .u32), (.int .u32)]) 11 (Addr.mk b0_ 0 none) fun (x27_ : Int × Int × Int × Int × Int × Int × Int × Int × Int × Int × Int × Unit) =>
 M.pure (.tuple ⟨[(.agg ⟨[(.int .i64 x27_.1), (.int .i64 x27_.2.1), (.int .i64 x27_.2.2.1), (.int .i64 x27_.2.2.2.1), (.int .u32 x27_.2.2.2.2.1), (.int .u32 x27_.2.2.2.2.2.1), (.int .u32 x27_.2.2.2.2.2.2.1), (.int .u32 x27_.2.2.2.2.2.2.2.1), (.int .u32 x27_.2.2.2.2.2.2.2.2.1), (.int .u32 x27_.2.2.2.2.2.2.2.2.2.1), (.int .u32 x27_.2.2.2.2.2.2.2.2.2.2.1)]⟩), (.int .i64 0)]⟩)))) fun go24_ =>
 M.ite (!(r22_.2.1 == 0))
 (go24_ (true, ()))
 (M.callS (.one (.cell .bool)) (X (.call 90 [(.slice r22_.1.1 r22_.1.2.1 r22_.1.2.2), (.slice x.1.1 x.1.2.1 x.1.2.2)])) fun (r29_ : Bool) =>
 go24_ ((!r29_), ())))) (fun _ => M.stuck)))))

theorem e45 (X : Task → M Value) (L : LoopI) (x : ((Option Addr × Nat × Nat)) × Unit) : evBody CC { call := X, loop := L } 45 (shsInj [(.cell .slice)] x) = f45 X L x := by kernel_rfl

/-- hayrick/inode.May -/
def f46 (X : Task → M Value) (L : LoopI) (x : (Int × Int × Int × Int × Int × Int × Int × Int × Int × Int × Int × Unit) × Unit) : M Value :=
 M.new (.cells [(.int .i64 x.1.1), (.int .i64 x.1.2.1), (.int .i64 x.1.2.2.1), (.int .i64 x.1.2.2.2.1), (.int .u32 x.1.2.2.2.2.1), (.int .u32 x.1.2.2.2.2.2.1), (.int .u32 x.1.2.2.2.2.2.2.1), (.int .u32 x.1.2.2.2.2.2.2.2.1), (.int .u32 x.1.2.2.2.2.2.2.2.2.1), (.int .u32 x.1.2.2.2.2.2.2.2.2.2.1), (.int .u32 x.1.2.2.2.2.2.2.2.2.2.2.1)] 34 false (0, 0) false) fun b0_ =>
 M.load (.cell (.int .i64)) 1 ((Addr.mk b0_ 0 none).add 1) fun (x1_ : Int) =>
 M.join (fun (j2_ : (Int) × (Int) × Unit) =>
 M.join (fun (j4_ : (Bool) × Unit) =>
 M.ite j4_.1
 (M.pure (.bool false))
 (M.load (.cell (.int .i64)) 1 ((Addr.mk b0_ 0 none).add 2) fun (x6_ : Int) =>
 M.callS (.one (.cell (.int .i64))) (X (.call 78 [(.int .i64 x6_)])) fun (r7_ : Int) =>
 let v8_ : Int := (if 6 < r7_ then 6 else r7_)
 M.guard (decide (0 ≤ v8_) && decide (v8_ ≤ ((6 : Nat) : Int)))
 (let v9_ : Nat := (Int.toNat v8_)
 M.join (fun (j10_ : (Bool) × Unit) =>
 M.pure (.bool j10_.1)) fun go11_ =>
 M.callS (.one (.cell .bool)) (X (.call 91 [(.slice (some (((Addr.mk b0_ 0 none).add 4).add (v9_ * 1))) (6 - v9_) (6 - v9_)), (.func (.func 92) ⟨[]⟩ ⟨[]⟩)])) fun (r12_ : Bool) =>
 M.ite (!r12_)
 (M.ite (decide (r7_ > 6))
 (go11_ (true, ()))
 (M.load (.cell (.int .u32)) 1 ((Addr.mk b0_ 0 none).add 10) fun (x15_ : Int) =>
 go11_ ((x15_ == 0), ())))
 (go11_ (false, ()))))) fun go5_ =>
 M.load (.cell (.int .i64)) 1 ((Addr.mk b0_ 0 none).add 0) fun (x17_ : Int) =>
 M.ite (decide (x17_ < 1))
 (go5_ (true, ()))
 (M.load (.cell (.int .i64)) 1 ((Addr.mk b0_ 0 none).add 0) fun (x19_ : Int) =>
 M.ite (decide (x19_ > 64))
 (go5_ (true, ()))
 (M.load (.cell (.int .i64)) 1 ((Addr.mk b0_ 0 none).add 2) fun (x21_ : Int) =>
 M.ite (decide (x21_ < 0))
 (go5_ (true, ()))
 (M.load (.cell (.int .i64)) 1 ((Addr.mk b0_ 0 none).add 2) fun (x23_ : Int) =>
 M.ite (decide (x23_ > j2_.1))
 (go5_ (true, ()))
 (M.load (.cell (.int .i64)) 1 ((Addr.mk b0_ 0 none).add 3) fun (x25_ : Int) =>
 M.ite (decide (x25_ < 1))
 (go5_ (true, ()))
 (M.load (.cell (.int .i64)) 1 ((Addr.mk b0_ 0 none).add 3) fun (x27_ : Int) =>
 go5_ ((decide (x27_ > j2_.2.1)), ()))))))) fun go3_ =>
 M.ite (x1_ == 1)
 (go3_ (3808, 64, ()))
 (M.ite (x1_ == 2)
 (M.load (.cell (.int .i64)) 1 ((Addr.mk b0_ 0 none).add 2) fun (x31_ : Int) =>
 M.guard (!(decide (28 = 0)))
 (M.ite (!(((x31_ : Int).tmod 28) == 0))
 (M.pure (.bool false))
 (go3_ (1792, 1, ()))))
 (M.pure (.bool false)))

theorem e46 (X : Task → M Value) (L : LoopI) (x : (Int × Int × Int × Int × Int × Int × Int × Int × Int × Int × Int × Unit) × Unit) : evBody CC { call := X, loop := L } 46 (shsInj [(.agg [(.int .i64), (.int .i64), (.int .i64), (.int .i64), (.int .u32), (.int .u32), (.int .u32), (.int .u32), (.int .u32), (.int .u32), (.int .u32)])] x) = f46 X L x := by kernel_rfl

/-- hayrick/points.All -/
def f48 (X : Task → M Value) (L : LoopI) (x : (Int × Int × Int × Int × Int × Int × Int × Int × Int × Int × Int × Unit) × ((Option Addr × Nat × Nat)) × Unit) : M Value :=
 M.new (.cells [(.int .i64 x.1.1), (.int .i64 x.1.2.1), (.int .i64 x.1.2.2.1), (.int .i64 x.1.2.2.2.1), (.int .u32 x.1.2.2.2.2.1), (.int .u32 x.1.2.2.2.2.2.1), (.int .u32 x.1.2.2.2.2.2.2.1), (.int .u32 x.1.2.2.2.2.2.2.2.1), (.int .u32 x.1.2.2.2.2.2.2.2.2.1), (.int .u32 x.1.2.2.2.2.2.2.2.2.2.1), (.int .u32 x.1.2.2.2.2.2.2.2.2.2.2.1)] 34 false (0, 0) false) fun b0_ =>
 M.load (.agg [(.int .i64), (.int .i64), (.int .i64), (.int .i64), (.int .u32), (.int .u32), (.int .u32), (.int .u32), (.int .u32), (.int .u32), (.int .u32)]) 11 (Addr.mk b0_ 0 none) fun (x1_ : Int × Int × Int × Int × Int × Int × Int × Int × Int × Int × Int × Unit) =>
 M.callS (.one (.cell .bool)) (X (.call 46 [(.agg ⟨[(.int .i64 x1_.1), (.int .i64 x1_.2.1), (.int .i64 x1_.2.2.1), (.int .i64 x1_.2.2.2.1), (.int .u32 x1_.2.2.2.2.1), (.int .u32 x1_.2.2.2.2.2.1), (.int .u32 x1_.2.2.2.2.2.2.1), (.int .u32 x1_.2.2.2.2.2.2.2.1), (.int .u32 x1_.2.2.2.2.2.2.2.2.1), (.int .u32 x1_.2.2.2.2.2.2.2.2.2.1), (.int .u32 x1_.2.2.2.2.2.2.2.2.2.2.1)]⟩)])) fun (r2_ : Bool) =>
 M.ite (!r2_)
 (M.pure (.tuple ⟨[(.slice none 0 0), (.int .i64 1)]⟩))
 (M.load (.cell (.int .i64)) 1 ((Addr.mk b0_ 0 none).add 2) fun (x4_ : Int) =>
 M.callS (.one (.cell (.int .i64))) (X (.call 78 [(.int .i64 x4_)])) fun (r5_ : Int) =>
 M.bind (L (σ := ((Option Addr × Nat × Nat)) × (Int) × Unit) (ρ := (((Option Addr × Nat × Nat)) × Unit) ⊕ (Unit)) (fun s6_ =>
 M.ite (decide (s6_.2.1 < r5_))
 (M.callS (.tuple [(.cell .bool), (.cell (.int .i64)), (.cell .bool)]) (X (.call 94 [(.int .i64 s6_.2.1)])) fun (r8_ : (Bool) × (Int) × (Bool) × Unit) =>
 M.join (fun (j9_ : ((Option Addr × Nat × Nat)) × Unit) =>
 M.pure (.inl (j9_.1, (IntKind.i64.wrap (s6_.2.1 + 1)), ()))) fun go10_ =>
 M.ite r8_.1
 (M.guard (decide (0 ≤ r8_.2.1) && decide (r8_.2.1 < ((6 : Nat) : Int)))
 (M.load (.cell (.int .u32)) 1 (((Addr.mk b0_ 0 none).add 4).add ((Int.toNat r8_.2.1) * 1)) fun (x12_ : Int) =>
 M.new (.cells [(.int .u32 x12_)] 31 false (0, 0) false) fun b13_ =>
 M.append 31 1 4 s6_.1.1 s6_.1.2.1 s6_.1.2.2 (.slice (some (Addr.mk b13_ 0 none)) 1 1) fun a14_ n15_ c16_ =>
 go10_ ((a14_, n15_, c16_), ())))
 (M.ite (decide (r8_.2.1 < ((x.2.1.2.1 : Nat) : Int)))
 (M.guard (decide (0 ≤ r8_.2.1) && decide (r8_.2.1 < ((x.2.1.2.1 : Nat) : Int)))
 (M.deref x.2.1.1 fun a19_ =>
 M.load (.cell (.int .u32)) 1 (a19_.add ((Int.toNat r8_.2.1) * 1)) fun (x20_ : Int) =>
 M.new (.cells [(.int .u32 x20_)] 31 false (0, 0) false) fun b21_ =>
 M.append 31 1 4 s6_.1.1 s6_.1.2.1 s6_.1.2.2 (.slice (some (Addr.mk b21_ 0 none)) 1 1) fun a22_ n23_ c24_ =>
 go10_ ((a22_, n23_, c24_), ())))
 (M.new (.cells [(.int .u32 0)] 31 false (0, 0) false) fun b25_ =>
 M.append 31 1 4 s6_.1.1 s6_.1.2.1 s6_.1.2.2 (.slice (some (Addr.mk b25_ 0 none)) 1 1) fun a26_ n27_ c28_ =>
 go10_ ((a26_, n27_, c28_), ()))))
 (M.pure (.inr (.inl (s6_.1, ()))))) ((none, 0, 0), 0, ())) <| M.sum (fun (j29_ : ((Option Addr × Nat × Nat)) × Unit) =>
 M.pure (.tuple ⟨[(.slice j29_.1.1 j29_.1.2.1 j29_.1.2.2), (.int .i64 0)]⟩)) (fun _ => M.stuck))

theorem e48 (X : Task → M Value) (L : LoopI) (x : (Int × Int × Int × Int × Int × Int × Int × Int × Int × Int × Int × Unit) × ((Option Addr × Nat × Nat)) × Unit) : evBody CC { call := X, loop := L } 48 (shsInj [(.agg [(.int .i64), (.int .i64), (.int .i64), (.int .i64), (.int .u32), (.int .u32), (.int .u32), (.int .u32), (.int .u32), (.int .u32), (.int .u32)]), (.cell .slice)] x) = f48 X L x := by kernel_rfl

/-- hayrick/hayricklaw08.Made -/
def f49 (X : Task → M Value) (L : LoopI) (x : (Int) × (Int) × (Int) × (Int) × Unit) : M Value :=
 M.new (.cells [(.int .i64 0), (.int .i64 0), (.int .i64 0)] 127 false (0, 0) false) fun b1_ =>
 M.store (Addr.mk b1_ 0 none) [(.int .i64 x.1), (.int .i64 (IntKind.i64.wrap (x.1 + x.2.1))), (.int .i64 x.2.2.1)]
 (M.load (.cell (.int .i64)) 1 ((Addr.mk b1_ 0 none).add 1) fun (x2_ : Int) =>
 M.callS (.tuple [(.cell .ptr), (.cell (.int .i64))]) (X (.call 95 [(.int .i64 x2_), (.int .i64 (IntKind.i64.wrap (x.2.2.2.1 + (IntKind.i64.wrap (8 * x.2.2.1)))))])) fun (r5_ : (Option Addr) × (Int) × Unit) =>
 M.load (.cell (.int .i64)) 1 ((Addr.mk b1_ 0 none).add 1) fun (x6_ : Int) =>
 M.callS (.tuple [(.cell .ptr), (.cell (.int .i64))]) (X (.call 96 [(.int .i64 x6_), (.int .i64 (IntKind.i64.wrap (x.2.2.2.1 + (IntKind.i64.wrap (8 * x.2.2.1)))))])) fun (r9_ : (Option Addr) × (Int) × Unit) =>
 M.join (fun (j10_ : (Bool) × Unit) =>
 M.ite j10_.1
 (M.pure (.tuple ⟨[(.pointer none), (.pointer none)]⟩))
 (M.load (.agg [(.int .i64), (.int .i64), (.int .i64)]) 3 (Addr.mk b1_ 0 none) fun (x12_ : Int × Int × Int × Unit) =>
 M.callS (.tuple [(.cell .ptr), (.cell (.int .i64))]) (X (.call 97 [(.pointer r5_.1), (.agg ⟨[(.int .i64 x12_.1), (.int .i64 x12_.2.1), (.int .i64 x12_.2.2.1)]⟩), (.int .i64 x.2.2.2.1)])) fun (r13_ : (Option Addr) × (Int) × Unit) =>
 M.load (.agg [(.int .i64), (.int .i64), (.int .i64)]) 3 (Addr.mk b1_ 0 none) fun (x14_ : Int × Int × Int × Unit) =>
 M.callS (.tuple [(.cell .ptr), (.cell (.int .i64))]) (X (.call 98 [(.pointer r9_.1), (.agg ⟨[(.int .i64 x14_.1), (.int .i64 x14_.2.1), (.int .i64 x14_.2.2.1)]⟩), (.int .i64 x.2.2.2.1)])) fun (r15_ : (Option Addr) × (Int) × Unit) =>
 M.join (fun (j16_ : (Bool) × Unit) =>
 M.ite j16_.1
 (M.pure (.tuple ⟨[(.pointer none), (.pointer none)]⟩))
 (M.pure (.tuple ⟨[(.pointer r13_.1), (.pointer r15_.1)]⟩))) fun go17_ =>
 M.ite (!(r13_.2.1 == 0))
 (go17_ (true, ()))
 (go17_ ((!(r15_.2.1 == 0)), ())))) fun go11_ =>
 M.ite (!(r5_.2.1 == 0))
 (go11_ (true, ()))
 (go11_ ((!(r9_.2.1 == 0)), ())))

theorem e49 (X : Task → M Value) (L : LoopI) (x : (Int) × (Int) × (Int) × (Int) × Unit) : evBody CC { call := X, loop := L } 49 (shsInj [(.cell (.int .i64)), (.cell (.int .i64)), (.cell (.int .i64)), (.cell (.int .i64))] x) = f49 X L x := by kernel_rfl

/-- hayrick/hayricklaw17.Every -/
def f50 (X : Task → M Value) (L : LoopI) (x : (Int) × Unit) : M Value :=
 M.bind (L (σ := ((Option Addr × Nat × Nat)) × (Int) × Unit) (ρ := (((Option Addr × Nat × Nat)) × Unit) ⊕ (Unit)) (fun s0_ =>
 M.ite (decide (s0_.2.1 < x.1))
 (M.new (.cells [(.int .i64 s0_.2.1)] 3 false (0, 0) false) fun b2_ =>
 M.append 3 1 8 s0_.1.1 s0_.1.2.1 s0_.1.2.2 (.slice (some (Addr.mk b2_ 0 none)) 1 1) fun a3_ n4_ c5_ =>
 M.pure (.inl ((a3_, n4_, c5_), (IntKind.i64.wrap (s0_.2.1 + 1)), ())))
 (M.pure (.inr (.inl (s0_.1, ()))))) ((none, 0, 0), 0, ())) <| M.sum (fun (j7_ : ((Option Addr × Nat × Nat)) × Unit) =>
 M.pure (.slice j7_.1.1 j7_.1.2.1 j7_.1.2.2)) (fun _ => M.stuck)

theorem e50 (X : Task → M Value) (L : LoopI) (x : (Int) × Unit) : evBody CC { call := X, loop := L } 50 (shsInj [(.cell (.int .i64))] x) = f50 X L x := by kernel_rfl

/-- hayrick/hayrickref17.New -/
def f51 (X : Task → M Value) (L : LoopI) (x : (Option Addr) × (Int) × ((Option Addr × Nat × Nat)) × ((Option Addr × Nat × Nat)) × Unit) : M Value :=
 M.deref x.1 fun a0_ =>
 M.load (.cell (.int .i64)) 1 ((a0_.add 1).add 2) fun (x1_ : Int) =>
 M.callS (.tuple [(.cell .slice), (.cell .bool)]) (X (.call 99 [(.slice x.2.2.2.1.1 x.2.2.2.1.2.1 x.2.2.2.1.2.2), (.int .i64 x1_), (.int .i64 (-1))])) fun (r2_ : ((Option Addr × Nat × Nat)) × (Bool) × Unit) =>
 M.join (fun (j3_ : (Bool) × Unit) =>
 M.ite j3_.1
 (M.pure (.tuple ⟨[(.pointer none), (.int .i64 1)]⟩))
 (M.append 75 1 8 none 0 0 (.slice x.2.2.1.1 x.2.2.1.2.1 x.2.2.1.2.2) fun a5_ n6_ c7_ =>
 M.new (.cells [(.pointer x.1), (.int .u64 x.2.1), (.slice a5_ n6_ c7_), (.slice r2_.1.1 r2_.1.2.1 r2_.1.2.2), (.int .i64 (-1)), (.slice none 0 0), (.slice none 0 0), (.bool false)] 175 false (0, 0) false) fun b8_ =>
 M.pure (.tuple ⟨[(.pointer (some (Addr.mk b8_ 0 none))), (.int .i64 0)]⟩))) fun go4_ =>
 M.ite (x.2.1 == 0)
 (go4_ (true, ()))
 (M.deref x.1 fun a11_ =>
 M.load (.cell (.int .i64)) 1 ((a11_.add 1).add 2) fun (x12_ : Int) =>
 M.ite (!(((x.2.2.1.2.1 : Nat) : Int) == x12_))
 (go4_ (true, ()))
 (go4_ ((!r2_.2.1), ())))

theorem e51 (X : Task → M Value) (L : LoopI) (x : (Option Addr) × (Int) × ((Option Addr × Nat × Nat)) × ((Option Addr × Nat × Nat)) × Unit) : evBody CC { call := X, loop := L } 51 (shsInj [(.cell .ptr), (.cell (.int .u64)), (.cell .slice), (.cell .slice)] x) = f51 X L x := by kernel_rfl

/-- (*hayrick/logs.Log).does -/
def f52 (X : Task → M Value) (L : LoopI) (x : (Option Addr) × (Value) × Unit) : M Value :=
 M.join (fun (j0_ : (Bool) × Unit) =>
 M.ite j0_.1
 (M.pure (.int .i64 2))
 (M.deref x.1 fun a2_ =>
 M.load (.cell .bool) 1 (a2_.add 7) fun (x3_ : Bool) =>
 M.ite x3_
 (M.pure (.int .i64 20))
 (callV CC ⟨X, L⟩ x.2.1 [] fun w5_ => M.need (RSh.prj (.one (.cell (.int .i64))) w5_) fun (r4_ : Int) =>
 M.pure (.int .i64 r4_)))) fun go1_ =>
 M.eqPtr x.1 none fun (q6_ : Bool) =>
 M.ite q6_
 (go1_ (true, ()))
 (M.deref x.1 fun a7_ =>
 M.load (.cell .ptr) 1 (a7_.add 0) fun (x8_ : Option Addr) =>
 M.eqPtr x8_ none fun (q9_ : Bool) =>
 go1_ (q9_, ()))

theorem e52 (X : Task → M Value) (L : LoopI) (x : (Option Addr) × (Value) × Unit) : evBody CC { call := X, loop := L } 52 (shsInj [(.cell .ptr), (.cell .val)] x) = f52 X L x := by kernel_rfl

/-- (*hayrick/logs.Log).Append$1 -/
def f53 (X : Task → M Value) (L : LoopI) (x : (Option Addr) × (Option Addr) × (Option Addr) × (Option Addr) × Unit) : M Value :=
 M.join (fun (j0_ : (Bool) × Unit) =>
 M.ite j0_.1
 (M.pure (.int .i64 1))
 (M.join (fun (j2_ : Unit) =>
 M.deref x.2.2.1 fun a4_ =>
 M.load (.cell .ptr) 1 a4_ fun (x5_ : Option Addr) =>
 M.deref x.2.2.1 fun a6_ =>
 M.load (.cell .ptr) 1 a6_ fun (x7_ : Option Addr) =>
 M.deref x7_ fun a8_ =>
 M.load (.cell (.int .i64)) 1 (a8_.add 4) fun (x9_ : Int) =>
 M.deref x.2.2.1 fun a10_ =>
 M.load (.cell .ptr) 1 a10_ fun (x11_ : Option Addr) =>
 M.deref x11_ fun a12_ =>
 M.load (.cell .slice) 1 (a12_.add 5) fun (x13_ : (Option Addr × Nat × Nat)) =>
 M.callS (.one (.cell (.int .i64))) (X (.call 56 [(.pointer x5_)])) fun (r15_ : Int) =>
 M.load (.cell .slice) 1 (a12_.add 5) fun (x16_ : (Option Addr × Nat × Nat)) => cond (veqv (.slice x16_.1 x16_.2.1 x16_.2.2) (.slice x13_.1 x13_.2.1 x13_.2.2)) (M.deref x.2.2.1 fun a17_ =>
 M.load (.cell .ptr) 1 a17_ fun (x18_ : Option Addr) => cond (veqv (.pointer x18_) (.pointer x11_)) (M.load (.cell (.int .i64)) 1 (a8_.add 4) fun (x19_ : Int) => cond (veqv (.int .i64 x19_) (.int .i64 x9_)) (M.deref x.2.2.1 fun a20_ =>
 M.load (.cell .ptr) 1 a20_ fun (x21_ : Option Addr) => cond (veqv (.pointer x21_) (.pointer x7_)) (M.callS (.tuple [(.cell (.int .u32)), (.cell (.int .i64))]) (X (.call 55 [(.int .i64 r15_), (.int .i64 x9_), (.int .i64 ((x13_.2.1 : Nat) : Int))])) fun (r22_ : (Int) × (Int) × Unit) =>
 M.deref x.2.2.2.1 fun a23_ =>
 M.store a23_ [(.int .u32 r22_.1)]
 (M.ite (!(r22_.2.1 == 0))
 (M.pure (.int .i64 r22_.2.1))
 (M.deref x.2.2.1 fun a25_ =>
 M.load (.cell .ptr) 1 a25_ fun (x26_ : Option Addr) =>
 M.deref x.2.2.1 fun a27_ =>
 M.load (.cell .ptr) 1 a27_ fun (x28_ : Option Addr) =>
 M.deref x.2.2.1 fun a29_ =>
 M.load (.cell .ptr) 1 a29_ fun (x30_ : Option Addr) =>
 M.deref x30_ fun a31_ =>
 M.load (.cell .slice) 1 (a31_.add 5) fun (x32_ : (Option Addr × Nat × Nat)) =>
 M.deref x.1 fun a33_ =>
 M.load (.agg [(.int .i64), .bool, (.int .i64), (.int .i64)]) 4 a33_ fun (x34_ : Int × Bool × Int × Int × Unit) =>
 M.new (.cells [(.int .i64 x34_.1), (.bool x34_.2.1), (.int .i64 x34_.2.2.1), (.int .i64 x34_.2.2.2.1)] 58 false (0, 0) false) fun b35_ =>
 M.deref x.2.2.1 fun a36_ =>
 M.load (.cell .ptr) 1 a36_ fun (x37_ : Option Addr) =>
 M.deref x37_ fun a38_ =>
 M.load (.cell .slice) 1 (a38_.add 6) fun (x39_ : (Option Addr × Nat × Nat)) =>
 M.deref x.2.1 fun a40_ =>
 M.load (.cell .slice) 1 a40_ fun (x41_ : (Option Addr × Nat × Nat)) =>
 M.append 58 4 32 x32_.1 x32_.2.1 x32_.2.2 (.slice (some (Addr.mk b35_ 0 none)) 1 1) fun a42_ n43_ c44_ =>
 M.deref x.2.1 fun a45_ =>
 M.load (.cell .slice) 1 a45_ fun (x46_ : (Option Addr × Nat × Nat)) => cond (veqv (.slice x46_.1 x46_.2.1 x46_.2.2) (.slice x41_.1 x41_.2.1 x41_.2.2)) (M.load (.cell .slice) 1 (a38_.add 6) fun (x47_ : (Option Addr × Nat × Nat)) => cond (veqv (.slice x47_.1 x47_.2.1 x47_.2.2) (.slice x39_.1 x39_.2.1 x39_.2.2)) (M.deref x.2.2.1 fun a48_ =>
 M.load (.cell .ptr) 1 a48_ fun (x49_ : Option Addr) => cond (veqv (.pointer x49_) (.pointer x37_)) (M.deref x.2.2.1 fun a50_ =>
 M.load (.cell .ptr) 1 a50_ fun (x51_ : Option Addr) => cond (veqv (.pointer x51_) (.pointer x28_)) (M.deref x.2.2.1 fun a52_ =>
 M.load (.cell .ptr) 1 a52_ fun (x53_ : Option Addr) => cond (veqv (.pointer x53_) (.pointer x26_)) (M.callS (.one (.cell .slice)) (X (.call 57 [(.slice x41_.1 x41_.2.1 x41_.2.2)])) fun (r54_ : (Option Addr × Nat × Nat)) =>
 M.load (.cell .slice) 1 (a38_.add 6) fun (x55_ : (Option Addr × Nat × Nat)) => cond (veqv (.slice x55_.1 x55_.2.1 x55_.2.2) (.slice x39_.1 x39_.2.1 x39_.2.2)) (M.deref x.2.2.1 fun a56_ =>
 M.load (.cell .ptr) 1 a56_ fun (x57_ : Option Addr) => cond (veqv (.pointer x57_) (.pointer x37_)) (M.deref x.2.2.1 fun a58_ =>
 M.load (.cell .ptr) 1 a58_ fun (x59_ : Option Addr) => cond (veqv (.pointer x59_) (.pointer x28_)) (M.deref x.2.2.1 fun a60_ =>
 M.load (.cell .ptr) 1 a60_ fun (x61_ : Option Addr) => cond (veqv (.pointer x61_) (.pointer x26_)) (M.new (.cells [(.slice r54_.1 r54_.2.1 r54_.2.2)] 49 false (0, 0) false) fun b62_ =>
 M.append 49 1 24 x39_.1 x39_.2.1 x39_.2.2 (.slice (some (Addr.mk b62_ 0 none)) 1 1) fun a63_ n64_ c65_ =>
 M.deref x.2.2.1 fun a66_ =>
 M.load (.cell .ptr) 1 a66_ fun (x67_ : Option Addr) => cond (veqv (.pointer x67_) (.pointer x28_)) (M.deref x.2.2.1 fun a68_ =>
 M.load (.cell .ptr) 1 a68_ fun (x69_ : Option Addr) => cond (veqv (.pointer x69_) (.pointer x26_)) (M.deref x26_ fun a70_ =>
 M.store (a70_.add 5) [(.slice a42_ n43_ c44_)]
 (M.deref x.2.2.1 fun a71_ =>
 M.load (.cell .ptr) 1 a71_ fun (x72_ : Option Addr) => cond (veqv (.pointer x72_) (.pointer x28_)) (M.deref x28_ fun a73_ =>
 M.store (a73_.add 6) [(.slice a63_ n64_ c65_)]
 (M.deref x.2.2.1 fun a74_ =>
 M.load (.cell .ptr) 1 a74_ fun (x75_ : Option Addr) =>
 M.deref x75_ fun a76_ =>
 M.load (.cell .slice) 1 (a76_.add 5) fun (x77_ : (Option Addr × Nat × Nat)) =>
 M.deref x.2.2.1 fun a79_ =>
 M.load (.cell .ptr) 1 a79_ fun (x80_ : Option Addr) =>
 M.callS (.one (.cell (.int .i64))) (X (.call 56 [(.pointer x80_)])) fun (r81_ : Int) =>
 M.load (.cell .slice) 1 (a76_.add 5) fun (x82_ : (Option Addr × Nat × Nat)) => cond (veqv (.slice x82_.1 x82_.2.1 x82_.2.2) (.slice x77_.1 x77_.2.1 x77_.2.2)) (M.deref x.2.2.1 fun a83_ =>
 M.load (.cell .ptr) 1 a83_ fun (x84_ : Option Addr) => cond (veqv (.pointer x84_) (.pointer x75_)) (M.callS (.one (.cell (.int .i64))) (X (.call 58 [(.int .i64 r81_)])) fun (r85_ : Int) =>
 M.load (.cell .slice) 1 (a76_.add 5) fun (x86_ : (Option Addr × Nat × Nat)) => cond (veqv (.slice x86_.1 x86_.2.1 x86_.2.2) (.slice x77_.1 x77_.2.1 x77_.2.2)) (M.deref x.2.2.1 fun a87_ =>
 M.load (.cell .ptr) 1 a87_ fun (x88_ : Option Addr) => cond (veqv (.pointer x88_) (.pointer x75_)) (M.ite (((x77_.2.1 : Nat) : Int) == r85_)
 (M.deref x.2.2.1 fun a90_ =>
 M.load (.cell .ptr) 1 a90_ fun (x91_ : Option Addr) =>
 M.callS (.one (.cell (.int .i64))) (X (.call 59 [(.pointer x91_)])) fun (r92_ : Int) =>
 M.pure (.int .i64 r92_))
 (M.pure (.int .i64 0))) M.stuck) M.stuck) M.stuck) M.stuck)) M.stuck)) M.stuck) M.stuck) M.stuck) M.stuck) M.stuck) M.stuck) M.stuck) M.stuck) M.stuck) M.stuck) M.stuck))) M.stuck) M.stuck) M.stuck) M.stuck) fun go3_ =>
 M.deref x.2.2.1 fun a93_ =>
 M.load (.cell .ptr) 1 a93_ fun (x94_ : Option Addr) =>
 M.deref x94_ fun a95_ =>
 M.load (.cell (.int .i64)) 1 (a95_.add 4) fun (x96_ : Int) =>
 M.ite (decide (x96_ < 0))
 (M.deref x.2.2.1 fun a98_ =>
 M.load (.cell .ptr) 1 a98_ fun (x99_ : Option Addr) =>
 M.deref x99_ fun a100_ =>
 M.load (.cell .slice) 1 (a100_.add 3) fun (x101_ : (Option Addr × Nat × Nat)) =>
 M.ite (((x101_.2.1 : Nat) : Int) == 0)
 (M.pure (.int .i64 7))
 (M.deref x.2.2.1 fun a104_ =>
 M.load (.cell .ptr) 1 a104_ fun (x105_ : Option Addr) =>
 M.deref x.2.2.1 fun a106_ =>
 M.load (.cell .ptr) 1 a106_ fun (x107_ : Option Addr) =>
 M.deref x.2.2.1 fun a108_ =>
 M.load (.cell .ptr) 1 a108_ fun (x109_ : Option Addr) =>
 M.deref x109_ fun a110_ =>
 M.load (.cell .slice) 1 (a110_.add 3) fun (x111_ : (Option Addr × Nat × Nat)) =>
 M.guard (decide (0 ≤ 0) && decide (0 < ((x111_.2.1 : Nat) : Int)))
 (M.deref x111_.1 fun a112_ =>
 M.load (.cell (.int .i64)) 1 (a112_.add ((Int.toNat 0) * 1)) fun (x113_ : Int) =>
 M.deref x.2.2.1 fun a114_ =>
 M.load (.cell .ptr) 1 a114_ fun (x115_ : Option Addr) =>
 M.deref x115_ fun a116_ =>
 M.load (.cell .slice) 1 (a116_.add 3) fun (x117_ : (Option Addr × Nat × Nat)) =>
 M.guard (decide (0 ≤ 1) && decide (1 ≤ ((x117_.2.1 : Nat) : Int)))
 (let v118_ : Nat := (Int.toNat 1)
 M.deref x105_ fun a119_ =>
 M.store (a119_.add 4) [(.int .i64 x113_)]
 (M.deref x.2.2.1 fun a120_ =>
 M.load (.cell .ptr) 1 a120_ fun (x121_ : Option Addr) => cond (veqv (.pointer x121_) (.pointer x107_)) (M.deref x107_ fun a122_ =>
 M.store (a122_.add 3) [(.slice (x117_.1.map (·.add (v118_ * 1))) (x117_.2.1 - v118_) (x117_.2.2 - v118_))]
 (M.deref x.2.2.1 fun a123_ =>
 M.load (.cell .ptr) 1 a123_ fun (x124_ : Option Addr) =>
 M.deref x124_ fun a125_ =>
 M.load (.cell .slice) 1 (a125_.add 2) fun (x126_ : (Option Addr × Nat × Nat)) =>
 M.deref x.2.2.1 fun a127_ =>
 M.load (.cell .ptr) 1 a127_ fun (x128_ : Option Addr) =>
 M.deref x128_ fun a129_ =>
 M.load (.cell (.int .i64)) 1 (a129_.add 4) fun (x130_ : Int) =>
 M.guard (decide (0 ≤ x130_) && decide (x130_ < ((x126_.2.1 : Nat) : Int)))
 (M.deref x126_.1 fun a131_ =>
 M.store (a131_.add ((Int.toNat x130_) * 1)) [(.int .u64 0)]
 (go3_ (()))))) M.stuck)))))
 (go3_ (())))) fun go1_ =>
 M.deref x.1 fun a132_ =>
 M.load (.agg [(.int .i64), .bool, (.int .i64), (.int .i64)]) 4 a132_ fun (x133_ : Int × Bool × Int × Int × Unit) =>
 M.callS (.one (.cell .bool)) (X (.call 54 [(.agg ⟨[(.int .i64 x133_.1), (.bool x133_.2.1), (.int .i64 x133_.2.2.1), (.int .i64 x133_.2.2.2.1)]⟩)])) fun (r134_ : Bool) =>
 M.ite (!r134_)
 (go1_ (true, ()))
 (M.deref x.2.1 fun a136_ =>
 M.load (.cell .slice) 1 a136_ fun (x137_ : (Option Addr × Nat × Nat)) =>
 go1_ ((!(((x137_.2.1 : Nat) : Int) == 112)), ()))

theorem e53 (X : Task → M Value) (L : LoopI) (x : (Option Addr) × (Option Addr) × (Option Addr) × (Option Addr) × Unit) : evBody CC { call := X, loop := L } 53 (shsInj [(.cell .ptr), (.cell .ptr), (.cell .ptr), (.cell .ptr)] x) = f53 X L x := by kernel_rfl

/-- hayrick/summary.May -/
def f54 (X : Task → M Value) (L : LoopI) (x : (Int × Bool × Int × Int × Unit) × Unit) : M Value :=
 M.new (.cells [(.int .i64 x.1.1), (.bool x.1.2.1), (.int .i64 x.1.2.2.1), (.int .i64 x.1.2.2.2.1)] 58 false (0, 0) false) fun b0_ =>
 M.join (fun (j1_ : (Bool) × Unit) =>
 M.ite j1_.1
 (M.pure (.bool false))
 (M.load (.cell (.int .i64)) 1 ((Addr.mk b0_ 0 none).add 0) fun (x3_ : Int) =>
 M.ite (x3_ == 1)
 (M.load (.cell (.int .i64)) 1 ((Addr.mk b0_ 0 none).add 3) fun (x5_ : Int) =>
 M.pure (.bool (decide (x5_ < 34))))
 (M.load (.cell (.int .i64)) 1 ((Addr.mk b0_ 0 none).add 3) fun (x7_ : Int) =>
 M.pure (.bool (x7_ == 0))))) fun go2_ =>
 M.load (.cell (.int .i64)) 1 ((Addr.mk b0_ 0 none).add 0) fun (x9_ : Int) =>
 M.ite (decide (x9_ < 1))
 (go2_ (true, ()))
 (M.load (.cell (.int .i64)) 1 ((Addr.mk b0_ 0 none).add 0) fun (x11_ : Int) =>
 M.ite (decide (x11_ > 4))
 (go2_ (true, ()))
 (M.load (.cell (.int .i64)) 1 ((Addr.mk b0_ 0 none).add 2) fun (x13_ : Int) =>
 M.ite (decide (x13_ < 1))
 (go2_ (true, ()))
 (M.load (.cell (.int .i64)) 1 ((Addr.mk b0_ 0 none).add 2) fun (x15_ : Int) =>
 M.ite (decide (x15_ > 64))
 (go2_ (true, ()))
 (M.load (.cell (.int .i64)) 1 ((Addr.mk b0_ 0 none).add 3) fun (x17_ : Int) =>
 go2_ ((decide (x17_ < 0)), ())))))

theorem e54 (X : Task → M Value) (L : LoopI) (x : (Int × Bool × Int × Int × Unit) × Unit) : evBody CC { call := X, loop := L } 54 (shsInj [(.agg [(.int .i64), .bool, (.int .i64), (.int .i64)])] x) = f54 X L x := by kernel_rfl

/-- hayrick/summary.Address -/
def f55 (X : Task → M Value) (L : LoopI) (x : (Int) × (Int) × (Int) × Unit) : M Value :=
 M.join (fun (j0_ : (Bool) × Unit) =>
 M.ite j0_.1
 (M.pure (.tuple ⟨[(.int .u32 0), (.int .i64 1)]⟩))
 (M.callS (.one (.cell (.int .i64))) (X (.call 67 [(.int .i64 x.1)])) fun (r4_ : Int) =>
 M.pure (.tuple ⟨[(.int .u32 (IntKind.u32.wrap (IntKind.i64.wrap ((IntKind.i64.wrap ((IntKind.i64.wrap ((IntKind.i64.wrap ((IntKind.i64.wrap (x.2.1 * 4)) * x.1)) + r4_)) + x.2.2.1)) + 1)))), (.int .i64 0)]⟩))) fun go1_ =>
 M.callS (.one (.cell .bool)) (X (.call 100 [(.int .i64 x.1)])) fun (r9_ : Bool) =>
 M.ite (!r9_)
 (go1_ (true, ()))
 (M.ite (decide (x.2.1 < 0))
 (go1_ (true, ()))
 (M.ite (decide (x.2.1 ≥ 128))
 (go1_ (true, ()))
 (M.ite (decide (x.2.2.1 < 0))
 (go1_ (true, ()))
 (M.callS (.one (.cell (.int .i64))) (X (.call 58 [(.int .i64 x.1)])) fun (r14_ : Int) =>
 go1_ ((decide (x.2.2.1 ≥ r14_)), ())))))

theorem e55 (X : Task → M Value) (L : LoopI) (x : (Int) × (Int) × (Int) × Unit) : evBody CC { call := X, loop := L } 55 (shsInj [(.cell (.int .i64)), (.cell (.int .i64)), (.cell (.int .i64))] x) = f55 X L x := by kernel_rfl

/-- (*hayrick/logs.Log).k -/
def f56 (X : Task → M Value) (L : LoopI) (x : (Option Addr) × Unit) : M Value :=
 M.deref x.1 fun a0_ =>
 M.load (.cell .ptr) 1 (a0_.add 0) fun (x1_ : Option Addr) =>
 M.callS (.one (.agg [(.int .i64), (.int .i64), (.int .i64)])) (X (.call 74 [(.pointer x1_)])) fun (r2_ : Int × Int × Int × Unit) =>
 M.pure (.int .i64 r2_.1)

theorem e56 (X : Task → M Value) (L : LoopI) (x : (Option Addr) × Unit) : evBody CC { call := X, loop := L } 56 (shsInj [(.cell .ptr)] x) = f56 X L x := by kernel_rfl

/-- bytes.Clone -/
def f57 (X : Task → M Value) (L : LoopI) (x : ((Option Addr × Nat × Nat)) × Unit) : M Value :=
 M.ite x.1.1.isNone
 (M.pure (.slice none 0 0))
 (M.new (.cells [] 5 false (0, 0) false) fun b0_ =>
 M.append 5 1 1 (some (Addr.mk b0_ 0 none)) 0 0 (.slice x.1.1 x.1.2.1 x.1.2.2) fun a1_ n2_ c3_ =>
 M.pure (.slice a1_ n2_ c3_))

theorem e57 (X : Task → M Value) (L : LoopI) (x : ((Option Addr × Nat × Nat)) × Unit) : evBody CC { call := X, loop := L } 57 (shsInj [(.cell .slice)] x) = f57 X L x := by kernel_rfl

/-- hayrick/summary.Cap -/
def f58 (X : Task → M Value) (L : LoopI) (x : (Int) × Unit) : M Value :=
 M.callS (.one (.cell .bool)) (X (.call 100 [(.int .i64 x.1)])) fun (r0_ : Bool) =>
 M.ite (!r0_)
 (M.pure (.int .i64 0))
 (M.callS (.one (.cell (.int .i64))) (X (.call 67 [(.int .i64 x.1)])) fun (r3_ : Int) =>
 M.pure (.int .i64 (IntKind.i64.wrap ((IntKind.i64.wrap (4 * x.1)) - r3_))))

theorem e58 (X : Task → M Value) (L : LoopI) (x : (Int) × Unit) : evBody CC { call := X, loop := L } 58 (shsInj [(.cell (.int .i64))] x) = f58 X L x := by kernel_rfl

/-- (*hayrick/logs.Log).out -/
def f59 (X : Task → M Value) (L : LoopI) (x : (Option Addr) × Unit) : M Value :=
 M.deref x.1 fun a0_ =>
 M.load (.cell (.int .i64)) 1 (a0_.add 4) fun (x1_ : Int) =>
 M.ite (decide (x1_ < 0))
 (M.pure (.int .i64 0))
 (M.callS (.one (.cell (.int .i64))) (X (.call 56 [(.pointer x.1)])) fun (r3_ : Int) =>
 M.deref x.1 fun a4_ =>
 M.load (.cell .slice) 1 (a4_.add 5) fun (x5_ : (Option Addr × Nat × Nat)) =>
 M.callS (.tuple [(.cell .slice), (.cell (.int .i64))]) (X (.call 101 [(.int .i64 r3_), (.slice x5_.1 x5_.2.1 x5_.2.2)])) fun (r6_ : ((Option Addr × Nat × Nat)) × (Int) × Unit) =>
 M.ite (!(r6_.2.1 == 0))
 (M.callS (.one (.cell (.int .i64))) (X (.call 62 [(.pointer x.1), (.int .i64 r6_.2.1)])) fun (r8_ : Int) =>
 M.pure (.int .i64 r8_))
 (let v9_ : Int := IntKind.i64.wrap (r3_ * 448)
 M.guard (decide (0 ≤ v9_) && decide (v9_ ≤ v9_) && decide ((1 : Int) * v9_ ≤ 2 ^ 48))
 (M.new (.cells (repeatA [(.int .u8 0)] (Int.toNat v9_)) 5 false (0, 0) false) fun b10_ =>
 M.copy 1 (some (Addr.mk b10_ 0 none)) (Int.toNat v9_) (.slice r6_.1.1 r6_.1.2.1 r6_.1.2.2) fun m11_ =>
 M.deref x.1 fun a12_ =>
 M.load (.cell .slice) 1 (a12_.add 6) fun (x13_ : (Option Addr × Nat × Nat)) =>
 M.bind (L (σ := (Int) × (Int) × Unit) (ρ := (Unit) ⊕ (Unit)) (fun s15_ =>
 M.ite (decide (s15_.2.1 < ((x13_.2.1 : Nat) : Int)))
 (M.guard (decide (0 ≤ s15_.2.1) && decide (s15_.2.1 < ((x13_.2.1 : Nat) : Int)))
 (M.deref x13_.1 fun a17_ =>
 M.load (.cell .slice) 1 (a17_.add ((Int.toNat s15_.2.1) * 1)) fun (x18_ : (Option Addr × Nat × Nat)) =>
 M.guard (decide (0 ≤ s15_.1) && decide (s15_.1 ≤ (((Int.toNat v9_) : Nat) : Int)))
 (let v19_ : Nat := (Int.toNat s15_.1)
 M.copy 1 (some ((Addr.mk b10_ 0 none).add (v19_ * 1))) ((Int.toNat v9_) - v19_) (.slice x18_.1 x18_.2.1 x18_.2.2) fun m20_ =>
 M.pure (.inl ((IntKind.i64.wrap (s15_.1 + ((m20_ : Nat) : Int))), (IntKind.i64.wrap (s15_.2.1 + 1)), ())))))
 (M.pure (.inr (.inl (()))))) (((m11_ : Nat) : Int), 0, ())) <| M.sum (fun (j23_ : Unit) =>
 M.deref x.1 fun a24_ =>
 M.load (.cell .ptr) 1 (a24_.add 0) fun (x25_ : Option Addr) =>
 M.deref x.1 fun a26_ =>
 M.load (.cell (.int .i64)) 1 (a26_.add 4) fun (x27_ : Int) =>
 M.deref x.1 fun a28_ =>
 M.load (.cell (.int .u64)) 1 (a28_.add 1) fun (x29_ : Int) =>
 M.callS (.one (.cell (.int .i64))) (X (.call 102 [(.pointer x25_), (.int .i64 x27_), (.int .u64 x29_), (.slice (some (Addr.mk b10_ 0 none)) (Int.toNat v9_) (Int.toNat v9_))])) fun (r30_ : Int) =>
 M.ite (!(r30_ == 0))
 (M.callS (.one (.cell (.int .i64))) (X (.call 62 [(.pointer x.1), (.int .i64 r30_)])) fun (r32_ : Int) =>
 M.pure (.int .i64 r32_))
 (M.deref x.1 fun a33_ =>
 M.load (.cell .slice) 1 (a33_.add 2) fun (x34_ : (Option Addr × Nat × Nat)) =>
 M.deref x.1 fun a35_ =>
 M.load (.cell (.int .i64)) 1 (a35_.add 4) fun (x36_ : Int) =>
 M.deref x.1 fun a37_ =>
 M.load (.cell (.int .u64)) 1 (a37_.add 1) fun (x38_ : Int) =>
 M.guard (decide (0 ≤ x36_) && decide (x36_ < ((x34_.2.1 : Nat) : Int)))
 (M.deref x34_.1 fun a39_ =>
 M.store (a39_.add ((Int.toNat x36_) * 1)) [(.int .u64 x38_)]
 (M.deref x.1 fun a40_ =>
 M.load (.cell (.int .u64)) 1 (a40_.add 1) fun (x41_ : Int) =>
 M.deref x.1 fun a43_ =>
 M.store (a43_.add 1) [(.int .u64 (IntKind.u64.wrap (x41_ + 1)))]
 (M.deref x.1 fun a44_ =>
 M.store (a44_.add 4) [(.int .i64 (-1))]
 (M.deref x.1 fun a45_ =>
 M.store (a45_.add 5) [(.slice none 0 0)]
 (M.deref x.1 fun a46_ =>
 M.store (a46_.add 6) [(.slice none 0 0)]
 (M.pure (.int .i64 0))))))))) (fun _ => M.stuck))))

theorem e59 (X : Task → M Value) (L : LoopI) (x : (Option Addr) × Unit) : evBody CC { call := X, loop := L } 59 (shsInj [(.cell .ptr)] x) = f59 X L x := by kernel_rfl

/-- (*hayrick/logs.Log).sure -/
def f62 (X : Task → M Value) (L : LoopI) (x : (Option Addr) × (Int) × Unit) : M Value :=
 M.join (fun (j0_ : Unit) =>
 M.pure (.int .i64 x.2.1)) fun go1_ =>
 M.deref x.1 fun a2_ =>
 M.load (.cell .bool) 1 (a2_.add 7) fun (x3_ : Bool) =>
 M.ite x3_
 (M.deref x.1 fun a4_ =>
 M.store (a4_.add 7) [(.bool true)]
 (go1_ (())))
 (M.deref x.1 fun a6_ =>
 M.store (a6_.add 7) [(.bool (!(x.2.1 == 0)))]
 (go1_ (())))

theorem e62 (X : Task → M Value) (L : LoopI) (x : (Option Addr) × (Int) × Unit) : evBody CC { call := X, loop := L } 62 (shsInj [(.cell .ptr), (.cell (.int .i64))] x) = f62 X L x := by kernel_rfl

/-- (*hayrick/logs.Log).Block$1 -/
def f64 (X : Task → M Value) (L : LoopI) (x : (Option Addr) × (Option Addr) × (Option Addr) × Unit) : M Value :=
 M.deref x.1 fun a0_ =>
 M.load (.cell .ptr) 1 a0_ fun (x1_ : Option Addr) =>
 M.deref x.2.1 fun a2_ =>
 M.load (.cell (.int .u32)) 1 a2_ fun (x3_ : Int) =>
 M.callS (.one (.cell (.int .i64))) (X (.call 56 [(.pointer x1_)])) fun (r4_ : Int) =>
 M.deref x.2.1 fun a5_ =>
 M.load (.cell (.int .u32)) 1 a5_ fun (x6_ : Int) => cond (veqv (.int .u32 x6_) (.int .u32 x3_)) (M.callS (.tuple [(.cell (.int .i64)), (.cell (.int .i64)), (.cell (.int .i64))]) (X (.call 65 [(.int .i64 r4_), (.int .u32 x3_)])) fun (r7_ : (Int) × (Int) × (Int) × Unit) =>
 M.join (fun (j8_ : (Bool) × Unit) =>
 M.ite j8_.1
 (M.pure (.int .i64 6))
 (M.join (fun (j10_ : (Bool) × Unit) =>
 M.ite j10_.1
 (M.deref x.1 fun a12_ =>
 M.load (.cell .ptr) 1 a12_ fun (x13_ : Option Addr) =>
 M.deref x13_ fun a14_ =>
 M.load (.cell .slice) 1 (a14_.add 6) fun (x15_ : (Option Addr × Nat × Nat)) =>
 M.guard (decide (0 ≤ r7_.2.1) && decide (r7_.2.1 < ((x15_.2.1 : Nat) : Int)))
 (M.deref x15_.1 fun a16_ =>
 M.load (.cell .slice) 1 (a16_.add ((Int.toNat r7_.2.1) * 1)) fun (x17_ : (Option Addr × Nat × Nat)) =>
 M.callS (.one (.cell .slice)) (X (.call 57 [(.slice x17_.1 x17_.2.1 x17_.2.2)])) fun (r18_ : (Option Addr × Nat × Nat)) =>
 M.deref x.2.2.1 fun a19_ =>
 M.store a19_ [(.slice r18_.1 r18_.2.1 r18_.2.2)]
 (M.pure (.int .i64 0))))
 (M.join (fun (j20_ : (Bool) × Unit) =>
 M.ite j20_.1
 (M.pure (.int .i64 6))
 (M.deref x.1 fun a22_ =>
 M.load (.cell .ptr) 1 a22_ fun (x23_ : Option Addr) =>
 M.callS (.tuple [(.cell .slice), (.cell (.int .i64))]) (X (.call 66 [(.pointer x23_), (.int .i64 r7_.1)])) fun (r24_ : ((Option Addr × Nat × Nat)) × (Int) × Unit) =>
 M.ite (!(r24_.2.1 == 0))
 (M.pure (.int .i64 r24_.2.1))
 (M.deref x.1 fun a26_ =>
 M.load (.cell .ptr) 1 a26_ fun (x27_ : Option Addr) =>
 M.callS (.one (.cell (.int .i64))) (X (.call 56 [(.pointer x27_)])) fun (r28_ : Int) =>
 M.callS (.one (.cell (.int .i64))) (X (.call 67 [(.int .i64 r28_)])) fun (r29_ : Int) =>
 let v31_ : Int := IntKind.i64.wrap ((IntKind.i64.wrap (r29_ + r7_.2.1)) * 112)
 let v32_ : Int := IntKind.i64.wrap (v31_ + 112)
 M.guard (decide (0 ≤ v32_) && decide (v32_ ≤ ((r24_.1.2.2 : Nat) : Int)))
 (let v33_ : Nat := (Int.toNat v32_)
 M.guard (decide (0 ≤ v31_) && decide (v31_ ≤ ((v33_ : Nat) : Int)))
 (let v34_ : Nat := (Int.toNat v31_)
 M.callS (.one (.cell .slice)) (X (.call 57 [(.slice (r24_.1.1.map (·.add (v34_ * 1))) (v33_ - v34_) (r24_.1.2.2 - v34_))])) fun (r35_ : (Option Addr × Nat × Nat)) =>
 M.deref x.2.2.1 fun a36_ =>
 M.store a36_ [(.slice r35_.1 r35_.2.1 r35_.2.2)]
 (M.pure (.int .i64 0))))))) fun go21_ =>
 M.deref x.1 fun a37_ =>
 M.load (.cell .ptr) 1 a37_ fun (x38_ : Option Addr) =>
 M.deref x38_ fun a39_ =>
 M.load (.cell (.int .i64)) 1 (a39_.add 4) fun (x40_ : Int) =>
 M.ite (r7_.1 == x40_)
 (go21_ (true, ()))
 (M.deref x.1 fun a42_ =>
 M.load (.cell .ptr) 1 a42_ fun (x43_ : Option Addr) =>
 M.deref x43_ fun a44_ =>
 M.load (.cell .slice) 1 (a44_.add 2) fun (x45_ : (Option Addr × Nat × Nat)) =>
 M.guard (decide (0 ≤ r7_.1) && decide (r7_.1 < ((x45_.2.1 : Nat) : Int)))
 (M.deref x45_.1 fun a46_ =>
 M.load (.cell (.int .u64)) 1 (a46_.add ((Int.toNat r7_.1) * 1)) fun (x47_ : Int) =>
 go21_ ((x47_ == 0), ()))))) fun go11_ =>
 M.deref x.1 fun a49_ =>
 M.load (.cell .ptr) 1 a49_ fun (x50_ : Option Addr) =>
 M.deref x50_ fun a51_ =>
 M.load (.cell (.int .i64)) 1 (a51_.add 4) fun (x52_ : Int) =>
 M.ite (r7_.1 == x52_)
 (M.deref x.1 fun a54_ =>
 M.load (.cell .ptr) 1 a54_ fun (x55_ : Option Addr) =>
 M.deref x55_ fun a56_ =>
 M.load (.cell .slice) 1 (a56_.add 6) fun (x57_ : (Option Addr × Nat × Nat)) =>
 go11_ ((decide (r7_.2.1 < ((x57_.2.1 : Nat) : Int))), ()))
 (go11_ (false, ())))) fun go9_ =>
 M.ite (!(r7_.2.2.1 == 0))
 (go9_ (true, ()))
 (M.deref x.1 fun a61_ =>
 M.load (.cell .ptr) 1 a61_ fun (x62_ : Option Addr) =>
 M.deref x62_ fun a63_ =>
 M.load (.cell .slice) 1 (a63_.add 2) fun (x64_ : (Option Addr × Nat × Nat)) =>
 go9_ ((decide (r7_.1 ≥ ((x64_.2.1 : Nat) : Int))), ()))) M.stuck

theorem e64 (X : Task → M Value) (L : LoopI) (x : (Option Addr) × (Option Addr) × (Option Addr) × Unit) : evBody CC { call := X, loop := L } 64 (shsInj [(.cell .ptr), (.cell .ptr), (.cell .ptr)] x) = f64 X L x := by kernel_rfl

/-- hayrick/summary.Where -/
def f65 (X : Task → M Value) (L : LoopI) (x : (Int) × (Int) × Unit) : M Value :=
 M.callS (.one (.cell .bool)) (X (.call 100 [(.int .i64 x.1)])) fun (r0_ : Bool) =>
 M.ite (!r0_)
 (M.pure (.tuple ⟨[(.int .i64 0), (.int .i64 0), (.int .i64 1)]⟩))
 (M.ite (x.2.1 == 0)
 (M.pure (.tuple ⟨[(.int .i64 0), (.int .i64 0), (.int .i64 6)]⟩))
 (let v5_ : Int := IntKind.i64.wrap (4 * x.1)
 M.guard (!(decide (v5_ = 0)))
 (let v6_ : Int := IntKind.i64.wrap (((IntKind.i64.wrap (IntKind.u32.wrap (x.2.1 - 1))) : Int).tdiv v5_)
 let v9_ : Int := IntKind.i64.wrap (4 * x.1)
 M.guard (!(decide (v9_ = 0)))
 (let v10_ : Int := ((IntKind.i64.wrap (IntKind.u32.wrap (x.2.1 - 1))) : Int).tmod v9_
 M.join (fun (j11_ : (Bool) × Unit) =>
 M.ite j11_.1
 (M.pure (.tuple ⟨[(.int .i64 0), (.int .i64 0), (.int .i64 6)]⟩))
 (M.callS (.one (.cell (.int .i64))) (X (.call 67 [(.int .i64 x.1)])) fun (r13_ : Int) =>
 M.pure (.tuple ⟨[(.int .i64 v6_), (.int .i64 (IntKind.i64.wrap (v10_ - r13_))), (.int .i64 0)]⟩))) fun go12_ =>
 M.ite (decide (v6_ ≥ 128))
 (go12_ (true, ()))
 (M.callS (.one (.cell (.int .i64))) (X (.call 67 [(.int .i64 x.1)])) fun (r16_ : Int) =>
 go12_ ((decide (v10_ < r16_)), ()))))))

theorem e65 (X : Task → M Value) (L : LoopI) (x : (Int) × (Int) × Unit) : evBody CC { call := X, loop := L } 65 (shsInj [(.cell (.int .i64)), (.cell (.int .u32))] x) = f65 X L x := by kernel_rfl

/-- (*hayrick/logs.Log).segment -/
def f66 (X : Task → M Value) (L : LoopI) (x : (Option Addr) × (Int) × Unit) : M Value :=
 M.deref x.1 fun a0_ =>
 M.load (.cell .ptr) 1 (a0_.add 0) fun (x1_ : Option Addr) =>
 M.deref x.1 fun a2_ =>
 M.load (.cell .slice) 1 (a2_.add 2) fun (x3_ : (Option Addr × Nat × Nat)) =>
 M.guard (decide (0 ≤ x.2.1) && decide (x.2.1 < ((x3_.2.1 : Nat) : Int)))
 (M.deref x3_.1 fun a4_ =>
 M.load (.cell (.int .u64)) 1 (a4_.add ((Int.toNat x.2.1) * 1)) fun (x5_ : Int) =>
 M.callS (.tuple [(.cell .slice), (.cell (.int .i64))]) (X (.call 107 [(.pointer x1_), (.int .i64 x.2.1), (.int .u64 x5_)])) fun (r6_ : ((Option Addr × Nat × Nat)) × (Int) × Unit) =>
 M.pure (.tuple ⟨[(.slice r6_.1.1 r6_.1.2.1 r6_.1.2.2), (.int .i64 r6_.2.1)]⟩))

theorem e66 (X : Task → M Value) (L : LoopI) (x : (Option Addr) × (Int) × Unit) : evBody CC { call := X, loop := L } 66 (shsInj [(.cell .ptr), (.cell (.int .i64))] x) = f66 X L x := by kernel_rfl

/-- hayrick/summary.Sum -/
def f67 (X : Task → M Value) (L : LoopI) (x : (Int) × Unit) : M Value :=
 M.callS (.one (.cell .bool)) (X (.call 100 [(.int .i64 x.1)])) fun (r0_ : Bool) =>
 M.ite (!r0_)
 (M.pure (.int .i64 0))
 (M.guard (!(decide (15 = 0)))
 (M.pure (.int .i64 (IntKind.i64.wrap (((IntKind.i64.wrap ((IntKind.i64.wrap (4 * x.1)) + 14)) : Int).tdiv 15)))))

theorem e67 (X : Task → M Value) (L : LoopI) (x : (Int) × Unit) : evBody CC { call := X, loop := L } 67 (shsInj [(.cell (.int .i64))] x) = f67 X L x := by kernel_rfl

/-- hayrick/logs.slots -/
def f72 (X : Task → M Value) (L : LoopI) (x : ((Option Addr × Nat × Nat)) × (Int) × (Int) × Unit) : M Value :=
 M.guard (decide (0 ≤ x.2.1) && decide (x.2.1 ≤ x.2.1) && decide ((1 : Int) * x.2.1 ≤ 2 ^ 48))
 (M.new (.cells (repeatA [(.bool false)] (Int.toNat x.2.1)) 4 false (0, 0) false) fun b0_ =>
 M.bind (L (σ := (Int) × Unit) (ρ := (Unit) ⊕ (((Bool) × Unit) ⊕ (Unit))) (fun s2_ =>
 M.ite (decide (s2_.1 < ((x.1.2.1 : Nat) : Int)))
 (M.guard (decide (0 ≤ s2_.1) && decide (s2_.1 < ((x.1.2.1 : Nat) : Int)))
 (M.deref x.1.1 fun a4_ =>
 M.load (.cell (.int .i64)) 1 (a4_.add ((Int.toNat s2_.1) * 1)) fun (x5_ : Int) =>
 M.join (fun (j6_ : (Bool) × Unit) =>
 M.ite j6_.1
 (M.pure (.inr (.inr (.inl (false, ())))))
 (M.guard (decide (0 ≤ x5_) && decide (x5_ < (((Int.toNat x.2.1) : Nat) : Int)))
 (M.store ((Addr.mk b0_ 0 none).add ((Int.toNat x5_) * 1)) [(.bool true)]
 (M.pure (.inl ((IntKind.i64.wrap (s2_.1 + 1)), ())))))) fun go7_ =>
 M.ite (decide (x5_ < 0))
 (go7_ (true, ()))
 (M.ite (decide (x5_ ≥ x.2.1))
 (go7_ (true, ()))
 (M.guard (decide (0 ≤ x5_) && decide (x5_ < (((Int.toNat x.2.1) : Nat) : Int)))
 (M.load (.cell .bool) 1 ((Addr.mk b0_ 0 none).add ((Int.toNat x5_) * 1)) fun (x11_ : Bool) =>
 M.ite x11_
 (go7_ (true, ()))
 (go7_ ((x5_ == x.2.2.1), ())))))))
 (M.pure (.inr (.inl (()))))) (0, ())) <| M.sum (fun (j13_ : Unit) =>
 M.pure (.bool true)) (M.sum (fun (j14_ : (Bool) × Unit) =>
 M.pure (.bool j14_.1)) (fun _ => M.stuck)))

theorem e72 (X : Task → M Value) (L : LoopI) (x : ((Option Addr × Nat × Nat)) × (Int) × (Int) × Unit) : evBody CC { call := X, loop := L } 72 (shsInj [(.cell .slice), (.cell (.int .i64)), (.cell (.int .i64))] x) = f72 X L x := by kernel_rfl

/-- hayrick/logs.rising -/
def f73 (X : Task → M Value) (L : LoopI) (x : ((Option Addr × Nat × Nat)) × Unit) : M Value :=
 M.callS (.one (.cell .slice)) (X (.call 109 [(.slice x.1.1 x.1.2.1 x.1.2.2)])) fun (r0_ : (Option Addr × Nat × Nat)) =>
 M.callS (.tuple []) (X (.call 110 [(.slice r0_.1 r0_.2.1 r0_.2.2)])) fun (r1_ : Unit) =>
 M.pure (.slice r0_.1 r0_.2.1 r0_.2.2)

theorem e73 (X : Task → M Value) (L : LoopI) (x : ((Option Addr × Nat × Nat)) × Unit) : evBody CC { call := X, loop := L } 73 (shsInj [(.cell .slice)] x) = f73 X L x := by kernel_rfl

/-- (*hayrick/stripe.Stripes).Geometry -/
def f74 (X : Task → M Value) (L : LoopI) (x : (Option Addr) × Unit) : M Value :=
 M.new (.cells [(.int .i64 0), (.int .i64 0), (.int .i64 0)] 127 false (0, 0) false) fun b0_ =>
 M.eqPtr x.1 none fun (q1_ : Bool) =>
 M.ite q1_
 (M.store (Addr.mk b0_ 0 none) [(.int .i64 0), (.int .i64 0), (.int .i64 0)]
 (M.load (.agg [(.int .i64), (.int .i64), (.int .i64)]) 3 (Addr.mk b0_ 0 none) fun (x2_ : Int × Int × Int × Unit) =>
 M.pure (.agg ⟨[(.int .i64 x2_.1), (.int .i64 x2_.2.1), (.int .i64 x2_.2.2.1)]⟩)))
 (M.deref x.1 fun a3_ =>
 M.load (.agg [(.int .i64), (.int .i64), (.int .i64)]) 3 (a3_.add 1) fun (x4_ : Int × Int × Int × Unit) =>
 M.store (Addr.mk b0_ 0 none) [(.int .i64 x4_.1), (.int .i64 x4_.2.1), (.int .i64 x4_.2.2.1)]
 (M.load (.agg [(.int .i64), (.int .i64), (.int .i64)]) 3 (Addr.mk b0_ 0 none) fun (x5_ : Int × Int × Int × Unit) =>
 M.pure (.agg ⟨[(.int .i64 x5_.1), (.int .i64 x5_.2.1), (.int .i64 x5_.2.2.1)]⟩)))

theorem e74 (X : Task → M Value) (L : LoopI) (x : (Option Addr) × Unit) : evBody CC { call := X, loop := L } 74 (shsInj [(.cell .ptr)] x) = f74 X L x := by kernel_rfl

/-- slices.Clone[[]uint64,uint64] -/
def f75 (X : Task → M Value) (L : LoopI) (x : ((Option Addr × Nat × Nat)) × Unit) : M Value :=
 M.ite x.1.1.isNone
 (M.pure (.slice none 0 0))
 (M.new (.cells [] 75 false (0, 0) false) fun b0_ =>
 M.append 75 1 8 (some (Addr.mk b0_ 0 none)) 0 0 (.slice x.1.1 x.1.2.1 x.1.2.2) fun a1_ n2_ c3_ =>
 M.pure (.slice a1_ n2_ c3_))

theorem e75 (X : Task → M Value) (L : LoopI) (x : ((Option Addr × Nat × Nat)) × Unit) : evBody CC { call := X, loop := L } 75 (shsInj [(.cell .slice)] x) = f75 X L x := by kernel_rfl

/-- hayrick/inode.Blocks -/
def f78 (X : Task → M Value) (L : LoopI) (x : (Int) × Unit) : M Value :=
 M.ite (decide (x.1 ≤ 0))
 (M.pure (.int .i64 0))
 (M.guard (!(decide (112 = 0)))
 (M.pure (.int .i64 (IntKind.i64.wrap ((IntKind.i64.wrap (((IntKind.i64.wrap (x.1 - 1)) : Int).tdiv 112)) + 1)))))

theorem e78 (X : Task → M Value) (L : LoopI) (x : (Int) × Unit) : evBody CC { call := X, loop := L } 78 (shsInj [(.cell (.int .i64))] x) = f78 X L x := by kernel_rfl

/-- hayrick/inode.Take$1 -/
def f88 (X : Task → M Value) (L : LoopI) (x : (Int) × (Option Addr) × Unit) : M Value :=
 M.deref x.2.1 fun a0_ =>
 M.load (.cell .slice) 1 a0_ fun (x1_ : (Option Addr × Nat × Nat)) =>
 M.guard (decide (0 ≤ x.1) && decide (x.1 ≤ ((x1_.2.2 : Nat) : Int)))
 (let v2_ : Nat := (Int.toNat x.1)
 M.bind (L (σ := (Int) × (Int) × Unit) (ρ := ((Int) × Unit) ⊕ (Unit)) (fun s4_ =>
 M.ite (decide (s4_.2.1 < (((v2_ - 0) : Nat) : Int)))
 (M.guard (decide (0 ≤ s4_.2.1) && decide (s4_.2.1 < (((v2_ - 0) : Nat) : Int)))
 (M.deref (x1_.1.map (·.add (0 * 1))) fun a6_ =>
 M.load (.cell (.int .u8)) 1 (a6_.add ((Int.toNat s4_.2.1) * 1)) fun (x7_ : Int) =>
 M.guard (decide (0 ≤ 8))
 (M.pure (.inl ((bitsV .or .i64 (IntKind.i64.wrap (s4_.1 * 2 ^ (min (Int.toNat 8) IntKind.i64.bits))) (IntKind.i64.wrap x7_)), (IntKind.i64.wrap (s4_.2.1 + 1)), ())))))
 (M.pure (.inr (.inl (s4_.1, ()))))) (0, 0, ())) <| M.sum (fun (j12_ : (Int) × Unit) =>
 M.deref x.2.1 fun a13_ =>
 M.load (.cell .slice) 1 a13_ fun (x14_ : (Option Addr × Nat × Nat)) =>
 M.guard (decide (0 ≤ x.1) && decide (x.1 ≤ ((x14_.2.1 : Nat) : Int)))
 (let v15_ : Nat := (Int.toNat x.1)
 M.deref x.2.1 fun a16_ =>
 M.store a16_ [(.slice (x14_.1.map (·.add (v15_ * 1))) (x14_.2.1 - v15_) (x14_.2.2 - v15_))]
 (M.pure (.int .i64 j12_.1)))) (fun _ => M.stuck))

theorem e88 (X : Task → M Value) (L : LoopI) (x : (Int) × (Option Addr) × Unit) : evBody CC { call := X, loop := L } 88 (shsInj [(.cell (.int .i64)), (.cell .ptr)] x) = f88 X L x := by kernel_rfl

/-- hayrick/inode.Put -/
def f89 (X : Task → M Value) (L : LoopI) (x : (Int × Int × Int × Int × Int × Int × Int × Int × Int × Int × Int × Unit) × Unit) : M Value :=
 M.new (.cells [(.int .i64 x.1.1), (.int .i64 x.1.2.1), (.int .i64 x.1.2.2.1), (.int .i64 x.1.2.2.2.1), (.int .u32 x.1.2.2.2.2.1), (.int .u32 x.1.2.2.2.2.2.1), (.int .u32 x.1.2.2.2.2.2.2.1), (.int .u32 x.1.2.2.2.2.2.2.2.1), (.int .u32 x.1.2.2.2.2.2.2.2.2.1), (.int .u32 x.1.2.2.2.2.2.2.2.2.2.1), (.int .u32 x.1.2.2.2.2.2.2.2.2.2.2.1)] 34 false (0, 0) false) fun b0_ =>
 M.load (.agg [(.int .i64), (.int .i64), (.int .i64), (.int .i64), (.int .u32), (.int .u32), (.int .u32), (.int .u32), (.int .u32), (.int .u32), (.int .u32)]) 11 (Addr.mk b0_ 0 none) fun (x1_ : Int × Int × Int × Int × Int × Int × Int × Int × Int × Int × Int × Unit) =>
 M.callS (.one (.cell .bool)) (X (.call 46 [(.agg ⟨[(.int .i64 x1_.1), (.int .i64 x1_.2.1), (.int .i64 x1_.2.2.1), (.int .i64 x1_.2.2.2.1), (.int .u32 x1_.2.2.2.2.1), (.int .u32 x1_.2.2.2.2.2.1), (.int .u32 x1_.2.2.2.2.2.2.1), (.int .u32 x1_.2.2.2.2.2.2.2.1), (.int .u32 x1_.2.2.2.2.2.2.2.2.1), (.int .u32 x1_.2.2.2.2.2.2.2.2.2.1), (.int .u32 x1_.2.2.2.2.2.2.2.2.2.2.1)]⟩)])) fun (r2_ : Bool) =>
 M.ite (!r2_)
 (M.pure (.tuple ⟨[(.slice none 0 0), (.int .i64 1)]⟩))
 (M.guard (decide (0 ≤ 0) && decide (0 ≤ 112) && decide ((1 : Int) * 112 ≤ 2 ^ 48))
 (M.new (.cells (repeatA [(.int .u8 0)] (Int.toNat 112)) 5 false (0, 0) false) fun b4_ =>
 M.load (.agg [(.int .i64), (.int .i64), (.int .i64), (.int .i64), (.int .u32), (.int .u32), (.int .u32), (.int .u32), (.int .u32), (.int .u32), (.int .u32)]) 11 (Addr.mk b0_ 0 none) fun (x5_ : Int × Int × Int × Int × Int × Int × Int × Int × Int × Int × Int × Unit) =>
 M.callS (.one (.agg [(.int .u32), (.int .i64), (.int .u32), (.int .i64), (.int .u32), (.int .i64), (.int .u32), (.int .i64), (.int .u32), (.int .i64), (.int .u32), (.int .i64), (.int .u32), (.int .i64), (.int .u32), (.int .i64), (.int .u32), (.int .i64), (.int .u32), (.int .i64), (.int .u32), (.int .i64)])) (X (.call 112 [(.agg ⟨[(.int .i64 x5_.1), (.int .i64 x5_.2.1), (.int .i64 x5_.2.2.1), (.int .i64 x5_.2.2.2.1), (.int .u32 x5_.2.2.2.2.1), (.int .u32 x5_.2.2.2.2.2.1), (.int .u32 x5_.2.2.2.2.2.2.1), (.int .u32 x5_.2.2.2.2.2.2.2.1), (.int .u32 x5_.2.2.2.2.2.2.2.2.1), (.int .u32 x5_.2.2.2.2.2.2.2.2.2.1), (.int .u32 x5_.2.2.2.2.2.2.2.2.2.2.1)]⟩)])) fun (r6_ : Int × Int × Int × Int × Int × Int × Int × Int × Int × Int × Int × Int × Int × Int × Int × Int × Int × Int × Int × Int × Int × Int × Unit) =>
 M.bind (L (σ := ((Option Addr × Nat × Nat)) × (Int) × Unit) (ρ := (((Option Addr × Nat × Nat)) × Unit) ⊕ (Unit)) (fun s7_ =>
 M.ite (decide (s7_.2.1 < 11))
 (M.guard (decide (0 ≤ s7_.2.1) && decide (s7_.2.1 < ((11 : Nat) : Int)))
 (let v9_ : List Value := [(.int .u32 r6_.1), (.int .i64 r6_.2.1), (.int .u32 r6_.2.2.1), (.int .i64 r6_.2.2.2.1), (.int .u32 r6_.2.2.2.2.1), (.int .i64 r6_.2.2.2.2.2.1), (.int .u32 r6_.2.2.2.2.2.2.1), (.int .i64 r6_.2.2.2.2.2.2.2.1), (.int .u32 r6_.2.2.2.2.2.2.2.2.1), (.int .i64 r6_.2.2.2.2.2.2.2.2.2.1), (.int .u32 r6_.2.2.2.2.2.2.2.2.2.2.1), (.int .i64 r6_.2.2.2.2.2.2.2.2.2.2.2.1), (.int .u32 r6_.2.2.2.2.2.2.2.2.2.2.2.2.1), (.int .i64 r6_.2.2.2.2.2.2.2.2.2.2.2.2.2.1), (.int .u32 r6_.2.2.2.2.2.2.2.2.2.2.2.2.2.2.1), (.int .i64 r6_.2.2.2.2.2.2.2.2.2.2.2.2.2.2.2.1), (.int .u32 r6_.2.2.2.2.2.2.2.2.2.2.2.2.2.2.2.2.1), (.int .i64 r6_.2.2.2.2.2.2.2.2.2.2.2.2.2.2.2.2.2.1), (.int .u32 r6_.2.2.2.2.2.2.2.2.2.2.2.2.2.2.2.2.2.2.1), (.int .i64 r6_.2.2.2.2.2.2.2.2.2.2.2.2.2.2.2.2.2.2.2.1), (.int .u32 r6_.2.2.2.2.2.2.2.2.2.2.2.2.2.2.2.2.2.2.2.2.1), (.int .i64 r6_.2.2.2.2.2.2.2.2.2.2.2.2.2.2.2.2.2.2.2.2.2.1)]
 cond (Nat.ble (((Int.toNat s7_.2.1) * 2) + 2) v9_.length) (let v10_ : List Value := ((v9_.drop ((Int.toNat s7_.2.1) * 2)).take 2)
 M.new (.cells [(.int .u32 0), (.int .i64 0)] 202 false (0, 0) false) fun b11_ =>
 cond (Nat.beq v10_.length 2) (M.store (Addr.mk b11_ 0 none) v10_
 (M.load (.cell (.int .i64)) 1 ((Addr.mk b11_ 0 none).add 1) fun (x12_ : Int) =>
 M.bind (L (σ := ((Option Addr × Nat × Nat)) × (Int) × Unit) (ρ := (((Option Addr × Nat × Nat)) × Unit) ⊕ (Unit)) (fun s14_ =>
 M.ite (decide (s14_.2.1 ≥ 0))
 (M.load (.cell (.int .u32)) 1 ((Addr.mk b11_ 0 none).add 0) fun (x16_ : Int) =>
 let v17_ : Int := IntKind.i64.wrap (8 * s14_.2.1)
 M.guard (decide (0 ≤ v17_))
 (M.new (.cells [(.int .u8 (IntKind.u8.wrap (((x16_ : Int)).fdiv (2 ^ (min (Int.toNat v17_) IntKind.u32.bits)))))] 5 false (0, 0) false) fun b20_ =>
 M.append 5 1 1 s14_.1.1 s14_.1.2.1 s14_.1.2.2 (.slice (some (Addr.mk b20_ 0 none)) 1 1) fun a21_ n22_ c23_ =>
 M.pure (.inl ((a21_, n22_, c23_), (IntKind.i64.wrap (s14_.2.1 - 1)), ()))))
 (M.pure (.inr (.inl (s14_.1, ()))))) (s7_.1, (IntKind.i64.wrap (x12_ - 1)), ())) <| M.sum (fun (j25_ : ((Option Addr × Nat × Nat)) × Unit) =>
 M.pure (.inl (j25_.1, (IntKind.i64.wrap (s7_.2.1 + 1)), ()))) (fun _ => M.stuck))) M.stuck) M.stuck))
 (M.pure (.inr (.inl (s7_.1, ()))))) (((some (Addr.mk b4_ 0 none)), (Int.toNat 0), (Int.toNat 112)), 0, ())) <| M.sum (fun (j27_ : ((Option Addr × Nat × Nat)) × Unit) =>
 M.guard (decide (0 ≤ 112) && decide (112 ≤ ((j27_.1.2.2 : Nat) : Int)))
 (M.pure (.tuple ⟨[(.slice (j27_.1.1.map (·.add (0 * 1))) ((Int.toNat 112) - 0) (j27_.1.2.2 - 0)), (.int .i64 0)]⟩))) (fun _ => M.stuck)))

theorem e89 (X : Task → M Value) (L : LoopI) (x : (Int × Int × Int × Int × Int × Int × Int × Int × Int × Int × Int × Unit) × Unit) : evBody CC { call := X, loop := L } 89 (shsInj [(.agg [(.int .i64), (.int .i64), (.int .i64), (.int .i64), (.int .u32), (.int .u32), (.int .u32), (.int .u32), (.int .u32), (.int .u32), (.int .u32)])] x) = f89 X L x := by kernel_rfl

/-- slices.Equal[[]byte,byte] -/
def f90 (X : Task → M Value) (L : LoopI) (x : ((Option Addr × Nat × Nat)) × ((Option Addr × Nat × Nat)) × Unit) : M Value :=
 M.ite (!(((x.1.2.1 : Nat) : Int) == ((x.2.1.2.1 : Nat) : Int)))
 (M.pure (.bool false))
 (M.bind (L (σ := (Int) × Unit) (ρ := (Unit) ⊕ (((Bool) × Unit) ⊕ (Unit))) (fun s4_ =>
 M.ite (decide (s4_.1 < ((x.1.2.1 : Nat) : Int)))
 (M.guard (decide (0 ≤ s4_.1) && decide (s4_.1 < ((x.1.2.1 : Nat) : Int)))
 (M.deref x.1.1 fun a6_ =>
 M.load (.cell (.int .u8)) 1 (a6_.add ((Int.toNat s4_.1) * 1)) fun (x7_ : Int) =>
 M.guard (decide (0 ≤ s4_.1) && decide (s4_.1 < ((x.2.1.2.1 : Nat) : Int)))
 (M.deref x.2.1.1 fun a8_ =>
 M.load (.cell (.int .u8)) 1 (a8_.add ((Int.toNat s4_.1) * 1)) fun (x9_ : Int) =>
 M.ite (!(x7_ == x9_))
 (M.pure (.inr (.inr (.inl (false, ())))))
 (M.pure (.inl ((IntKind.i64.wrap (s4_.1 + 1)), ()))))))
 (M.pure (.inr (.inl (()))))) (0, ())) <| M.sum (fun (j12_ : Unit) =>
 M.pure (.bool true)) (M.sum (fun (j13_ : (Bool) × Unit) =>
 M.pure (.bool j13_.1)) (fun _ => M.stuck)))

theorem e90 (X : Task → M Value) (L : LoopI) (x : ((Option Addr × Nat × Nat)) × ((Option Addr × Nat × Nat)) × Unit) : evBody CC { call := X, loop := L } 90 (shsInj [(.cell .slice), (.cell .slice)] x) = f90 X L x := by kernel_rfl

/-- slices.ContainsFunc[[]uint32,uint32] -/
def f91 (X : Task → M Value) (L : LoopI) (x : ((Option Addr × Nat × Nat)) × (Value) × Unit) : M Value :=
 M.callS (.one (.cell (.int .i64))) (X (.call 113 [(.slice x.1.1 x.1.2.1 x.1.2.2), x.2.1])) fun (r0_ : Int) =>
 M.pure (.bool (decide (r0_ ≥ 0)))

theorem e91 (X : Task → M Value) (L : LoopI) (x : ((Option Addr × Nat × Nat)) × (Value) × Unit) : evBody CC { call := X, loop := L } 91 (shsInj [(.cell .slice), (.cell .val)] x) = f91 X L x := by kernel_rfl

/-- hayrick/inode.May$1 -/
def f92 (X : Task → M Value) (L : LoopI) (x : (Int) × Unit) : M Value :=
 M.pure (.bool (!(x.1 == 0)))

theorem e92 (X : Task → M Value) (L : LoopI) (x : (Int) × Unit) : evBody CC { call := X, loop := L } 92 (shsInj [(.cell (.int .u32))] x) = f92 X L x := by kernel_rfl

/-- slices.Chunk[[]byte,byte] -/
def f93 (X : Task → M Value) (L : LoopI) (x : ((Option Addr × Nat × Nat)) × (Int) × Unit) : M Value :=
 M.new (.cells [(.slice x.1.1 x.1.2.1 x.1.2.2)] 49 false (0, 0) false) fun b0_ =>
 M.new (.cells [(.int .i64 x.2.1)] 3 false (0, 0) false) fun b1_ =>
 M.join (fun (j2_ : Unit) =>
 M.pure (.func (.func 114) ⟨[]⟩ ⟨[(.pointer (some (Addr.mk b0_ 0 none))), (.pointer (some (Addr.mk b1_ 0 none)))]⟩)) fun go3_ =>
 M.load (.cell (.int .i64)) 1 (Addr.mk b1_ 0 none) fun (x4_ : Int) =>
 M.ite (decide (x4_ < 1))
 (M.throw (.iface 9 (.string st0)))
 (go3_ (()))

theorem e93 (X : Task → M Value) (L : LoopI) (x : ((Option Addr × Nat × Nat)) × (Int) × Unit) : evBody CC { call := X, loop := L } 93 (shsInj [(.cell .slice), (.cell (.int .i64))] x) = f93 X L x := by kernel_rfl

/-- hayrick/points.At -/
def f94 (X : Task → M Value) (L : LoopI) (x : (Int) × Unit) : M Value :=
 M.join (fun (j0_ : (Bool) × Unit) =>
 M.ite j0_.1
 (M.pure (.tuple ⟨[(.bool false), (.int .i64 0), (.bool false)]⟩))
 (M.ite (decide (x.1 < 6))
 (M.pure (.tuple ⟨[(.bool true), (.int .i64 x.1), (.bool true)]⟩))
 (M.pure (.tuple ⟨[(.bool false), (.int .i64 (IntKind.i64.wrap (x.1 - 6))), (.bool true)]⟩)))) fun go1_ =>
 M.ite (decide (x.1 < 0))
 (go1_ (true, ()))
 (go1_ ((decide (x.1 ≥ 34)), ()))

theorem e94 (X : Task → M Value) (L : LoopI) (x : (Int) × Unit) : evBody CC { call := X, loop := L } 94 (shsInj [(.cell (.int .i64))] x) = f94 X L x := by kernel_rfl

/-- hayrick/array.New -/
def f95 (X : Task → M Value) (L : LoopI) (x : (Int) × (Int) × Unit) : M Value :=
 M.join (fun (j0_ : (Bool) × Unit) =>
 M.ite j0_.1
 (M.pure (.tuple ⟨[(.pointer none), (.int .i64 1)]⟩))
 (M.new (.cells [(.int .i64 x.2.1), (.slice none 0 0), (.slice none 0 0), (.int .i64 0), (.bool false)] 133 false (0, 0) false) fun b2_ =>
 M.bind (L (σ := (Int) × Unit) (ρ := (Unit) ⊕ (Unit)) (fun s3_ =>
 M.ite (decide (s3_.1 < x.1))
 (M.load (.cell .slice) 1 ((Addr.mk b2_ 0 none).add 1) fun (x5_ : (Option Addr × Nat × Nat)) =>
 M.guard (decide (0 ≤ x.2.1) && decide (x.2.1 ≤ x.2.1) && decide ((64 : Int) * x.2.1 ≤ 2 ^ 48))
 (M.new (.cells (repeatA (zc 183) (Int.toNat x.2.1)) 183 false (0, 0) false) fun b6_ =>
 M.new (.cells [(.slice (some (Addr.mk b6_ 0 none)) (Int.toNat x.2.1) (Int.toNat x.2.1))] 207 false (0, 0) false) fun b7_ =>
 M.append 207 1 24 x5_.1 x5_.2.1 x5_.2.2 (.slice (some (Addr.mk b7_ 0 none)) 1 1) fun a8_ n9_ c10_ =>
 M.store ((Addr.mk b2_ 0 none).add 1) [(.slice a8_ n9_ c10_)]
 (M.pure (.inl ((IntKind.i64.wrap (s3_.1 + 1)), ())))))
 (M.pure (.inr (.inl (()))))) (0, ())) <| M.sum (fun (j12_ : Unit) =>
 M.pure (.tuple ⟨[(.pointer (some (Addr.mk b2_ 0 none))), (.int .i64 0)]⟩)) (fun _ => M.stuck))) fun go1_ =>
 M.ite (decide (x.1 < 1))
 (go1_ (true, ()))
 (M.ite (decide (x.1 > 255))
 (go1_ (true, ()))
 (M.ite (decide (x.2.1 < 1))
 (go1_ (true, ()))
 (go1_ ((decide (x.2.1 > 4096)), ()))))

theorem e95 (X : Task → M Value) (L : LoopI) (x : (Int) × (Int) × Unit) : evBody CC { call := X, loop := L } 95 (shsInj [(.cell (.int .i64)), (.cell (.int .i64))] x) = f95 X L x := by kernel_rfl

/-- hayrick/hayrickref06.New -/
def f96 (X : Task → M Value) (L : LoopI) (x : (Int) × (Int) × Unit) : M Value :=
 M.join (fun (j0_ : (Bool) × Unit) =>
 M.ite j0_.1
 (M.pure (.tuple ⟨[(.pointer none), (.int .i64 1)]⟩))
 (M.new (.cells [(.slice none 0 0), (.int .i64 x.2.1), (.slice none 0 0), (.int .i64 0), (.bool false)] 211 false (0, 0) false) fun b2_ =>
 M.bind (L (σ := (Int) × Unit) (ρ := (Unit) ⊕ (Unit)) (fun s3_ =>
 M.ite (decide (s3_.1 < x.1))
 (M.load (.cell .slice) 1 ((Addr.mk b2_ 0 none).add 0) fun (x5_ : (Option Addr × Nat × Nat)) =>
 M.callS (.one (.agg [.slice, .bool])) (X (.call 115 [(.int .i64 x.2.1)])) fun (r6_ : (Option Addr × Nat × Nat) × Bool × Unit) =>
 M.load (.cell .slice) 1 ((Addr.mk b2_ 0 none).add 0) fun (x7_ : (Option Addr × Nat × Nat)) => cond (veqv (.slice x7_.1 x7_.2.1 x7_.2.2) (.slice x5_.1 x5_.2.1 x5_.2.2)) (M.new (.cells [(.slice r6_.1.1 r6_.1.2.1 r6_.1.2.2), (.bool r6_.2.1)] 213 false (0, 0) false) fun b8_ =>
 M.append 213 2 32 x5_.1 x5_.2.1 x5_.2.2 (.slice (some (Addr.mk b8_ 0 none)) 1 1) fun a9_ n10_ c11_ =>
 M.store ((Addr.mk b2_ 0 none).add 0) [(.slice a9_ n10_ c11_)]
 (M.pure (.inl ((IntKind.i64.wrap (s3_.1 + 1)), ())))) M.stuck)
 (M.pure (.inr (.inl (()))))) (0, ())) <| M.sum (fun (j13_ : Unit) =>
 M.pure (.tuple ⟨[(.pointer (some (Addr.mk b2_ 0 none))), (.int .i64 0)]⟩)) (fun _ => M.stuck))) fun go1_ =>
 M.ite (decide (x.1 < 1))
 (go1_ (true, ()))
 (M.ite (decide (x.1 > 255))
 (go1_ (true, ()))
 (M.ite (decide (x.2.1 < 1))
 (go1_ (true, ()))
 (go1_ ((decide (x.2.1 > 4096)), ()))))

theorem e96 (X : Task → M Value) (L : LoopI) (x : (Int) × (Int) × Unit) : evBody CC { call := X, loop := L } 96 (shsInj [(.cell (.int .i64)), (.cell (.int .i64))] x) = f96 X L x := by kernel_rfl

/-- hayrick/stripe.New -/
def f97 (X : Task → M Value) (L : LoopI) (x : (Option Addr) × (Int × Int × Int × Unit) × (Int) × Unit) : M Value :=
 M.new (.cells [(.int .i64 x.2.1.1), (.int .i64 x.2.1.2.1), (.int .i64 x.2.1.2.2.1)] 127 false (0, 0) false) fun b0_ =>
 M.callS (.one (.cell (.int .i64))) (X (.call 116 [(.pointer x.1)])) fun (r1_ : Int) =>
 M.ite (r1_ == 0)
 (M.pure (.tuple ⟨[(.pointer none), (.int .i64 2)]⟩))
 (M.join (fun (j3_ : (Bool) × Unit) =>
 M.ite j3_.1
 (M.pure (.tuple ⟨[(.pointer none), (.int .i64 1)]⟩))
 (M.load (.agg [(.int .i64), (.int .i64), (.int .i64)]) 3 (Addr.mk b0_ 0 none) fun (x5_ : Int × Int × Int × Unit) =>
 M.new (.cells [(.pointer x.1), (.int .i64 x5_.1), (.int .i64 x5_.2.1), (.int .i64 x5_.2.2.1), (.int .i64 x.2.2.1)] 129 false (0, 0) false) fun b6_ =>
 M.pure (.tuple ⟨[(.pointer (some (Addr.mk b6_ 0 none))), (.int .i64 0)]⟩))) fun go4_ =>
 M.load (.cell (.int .i64)) 1 ((Addr.mk b0_ 0 none).add 0) fun (x7_ : Int) =>
 M.load (.cell (.int .i64)) 1 ((Addr.mk b0_ 0 none).add 1) fun (x8_ : Int) =>
 M.callS (.one (.cell .bool)) (X (.call 117 [(.int .i64 x7_), (.int .i64 x8_)])) fun (r9_ : Bool) =>
 M.ite (!r9_)
 (go4_ (true, ()))
 (M.load (.cell (.int .i64)) 1 ((Addr.mk b0_ 0 none).add 2) fun (x11_ : Int) =>
 M.ite (decide (x11_ < 1))
 (go4_ (true, ()))
 (M.load (.cell (.int .i64)) 1 ((Addr.mk b0_ 0 none).add 2) fun (x13_ : Int) =>
 M.ite (decide (x13_ > 128))
 (go4_ (true, ()))
 (M.ite (decide (x.2.2.1 < 0))
 (go4_ (true, ()))
 (M.load (.cell (.int .i64)) 1 ((Addr.mk b0_ 0 none).add 1) fun (x16_ : Int) =>
 M.callS (.one (.cell (.int .i64))) (X (.call 116 [(.pointer x.1)])) fun (r17_ : Int) =>
 M.load (.cell (.int .i64)) 1 ((Addr.mk b0_ 0 none).add 1) fun (x18_ : Int) => cond (veqv (.int .i64 x18_) (.int .i64 x16_)) (M.ite (!(r17_ == x16_))
 (go4_ (true, ()))
 (M.load (.cell (.int .i64)) 1 ((Addr.mk b0_ 0 none).add 2) fun (x20_ : Int) =>
 M.callS (.one (.cell (.int .i64))) (X (.call 118 [(.pointer x.1)])) fun (r22_ : Int) =>
 M.load (.cell (.int .i64)) 1 ((Addr.mk b0_ 0 none).add 2) fun (x23_ : Int) => cond (veqv (.int .i64 x23_) (.int .i64 x20_)) (go4_ ((decide ((IntKind.i64.wrap (r22_ - x.2.2.1)) < (IntKind.i64.wrap (x20_ * 8)))), ())) M.stuck)) M.stuck)))))

theorem e97 (X : Task → M Value) (L : LoopI) (x : (Option Addr) × (Int × Int × Int × Unit) × (Int) × Unit) : evBody CC { call := X, loop := L } 97 (shsInj [(.cell .ptr), (.agg [(.int .i64), (.int .i64), (.int .i64)]), (.cell (.int .i64))] x) = f97 X L x := by kernel_rfl

/-- hayrick/hayrickref08.New -/
def f98 (X : Task → M Value) (L : LoopI) (x : (Option Addr) × (Int × Int × Int × Unit) × (Int) × Unit) : M Value :=
 M.new (.cells [(.int .i64 x.2.1.1), (.int .i64 x.2.1.2.1), (.int .i64 x.2.1.2.2.1)] 127 false (0, 0) false) fun b0_ =>
 M.join (fun (j1_ : (Bool) × Unit) =>
 M.ite j1_.1
 (M.pure (.tuple ⟨[(.pointer none), (.int .i64 1)]⟩))
 (M.join (fun (j3_ : (Bool) × Unit) =>
 M.ite j3_.1
 (M.pure (.tuple ⟨[(.pointer none), (.int .i64 1)]⟩))
 (M.load (.agg [(.int .i64), (.int .i64), (.int .i64)]) 3 (Addr.mk b0_ 0 none) fun (x5_ : Int × Int × Int × Unit) =>
 M.new (.cells [(.pointer x.1), (.int .i64 x5_.1), (.int .i64 x5_.2.1), (.int .i64 x5_.2.2.1), (.int .i64 x.2.2.1)] 173 false (0, 0) false) fun b6_ =>
 M.pure (.tuple ⟨[(.pointer (some (Addr.mk b6_ 0 none))), (.int .i64 0)]⟩))) fun go4_ =>
 M.deref x.1 fun a7_ =>
 M.load (.cell .slice) 1 (a7_.add 0) fun (x8_ : (Option Addr × Nat × Nat)) =>
 M.load (.cell (.int .i64)) 1 ((Addr.mk b0_ 0 none).add 1) fun (x10_ : Int) =>
 M.ite (!(((x8_.2.1 : Nat) : Int) == x10_))
 (go4_ (true, ()))
 (M.deref x.1 fun a12_ =>
 M.load (.cell (.int .i64)) 1 (a12_.add 1) fun (x13_ : Int) =>
 M.ite (decide (x13_ < x.2.2.1))
 (go4_ (true, ()))
 (M.deref x.1 fun a15_ =>
 M.load (.cell (.int .i64)) 1 (a15_.add 1) fun (x16_ : Int) =>
 M.load (.cell (.int .i64)) 1 ((Addr.mk b0_ 0 none).add 2) fun (x18_ : Int) =>
 go4_ ((decide ((IntKind.i64.wrap (x16_ - x.2.2.1)) < (IntKind.i64.wrap (8 * x18_)))), ()))))) fun go2_ =>
 M.load (.cell (.int .i64)) 1 ((Addr.mk b0_ 0 none).add 0) fun (x21_ : Int) =>
 M.load (.cell (.int .i64)) 1 ((Addr.mk b0_ 0 none).add 1) fun (x22_ : Int) =>
 M.callS (.one (.cell .bool)) (X (.call 119 [(.int .i64 x21_), (.int .i64 x22_)])) fun (r23_ : Bool) =>
 M.ite (!r23_)
 (go2_ (true, ()))
 (M.load (.cell (.int .i64)) 1 ((Addr.mk b0_ 0 none).add 2) fun (x25_ : Int) =>
 M.ite (decide (x25_ < 1))
 (go2_ (true, ()))
 (M.load (.cell (.int .i64)) 1 ((Addr.mk b0_ 0 none).add 2) fun (x27_ : Int) =>
 M.ite (decide (x27_ > 128))
 (go2_ (true, ()))
 (go2_ ((decide (x.2.2.1 < 0)), ()))))

theorem e98 (X : Task → M Value) (L : LoopI) (x : (Option Addr) × (Int × Int × Int × Unit) × (Int) × Unit) : evBody CC { call := X, loop := L } 98 (shsInj [(.cell .ptr), (.agg [(.int .i64), (.int .i64), (.int .i64)]), (.cell (.int .i64))] x) = f98 X L x := by kernel_rfl

/-- hayrick/hayrickref17.slots -/
def f99 (X : Task → M Value) (L : LoopI) (x : ((Option Addr × Nat × Nat)) × (Int) × (Int) × Unit) : M Value :=
 M.guard (decide (0 ≤ x.2.1) && decide (x.2.1 ≤ x.2.1) && decide ((1 : Int) * x.2.1 ≤ 2 ^ 48))
 (M.new (.cells (repeatA [(.bool false)] (Int.toNat x.2.1)) 4 false (0, 0) false) fun b0_ =>
 M.bind (L (σ := (Int) × Unit) (ρ := (Unit) ⊕ ((((Option Addr × Nat × Nat)) × (Bool) × Unit) ⊕ (Unit))) (fun s1_ =>
 M.ite (decide (s1_.1 < ((x.1.2.1 : Nat) : Int)))
 (M.join (fun (j4_ : (Bool) × Unit) =>
 M.ite j4_.1
 (M.pure (.inr (.inr (.inl ((none, 0, 0), false, ())))))
 (M.guard (decide (0 ≤ s1_.1) && decide (s1_.1 < ((x.1.2.1 : Nat) : Int)))
 (M.deref x.1.1 fun a6_ =>
 M.load (.cell (.int .i64)) 1 (a6_.add ((Int.toNat s1_.1) * 1)) fun (x7_ : Int) =>
 M.guard (decide (0 ≤ x7_) && decide (x7_ < (((Int.toNat x.2.1) : Nat) : Int)))
 (M.load (.cell .bool) 1 ((Addr.mk b0_ 0 none).add ((Int.toNat x7_) * 1)) fun (x8_ : Bool) =>
 M.ite x8_
 (M.pure (.inr (.inr (.inl ((none, 0, 0), false, ())))))
 (M.guard (decide (0 ≤ s1_.1) && decide (s1_.1 < ((x.1.2.1 : Nat) : Int)))
 (M.deref x.1.1 fun a9_ =>
 M.load (.cell (.int .i64)) 1 (a9_.add ((Int.toNat s1_.1) * 1)) fun (x10_ : Int) =>
 M.guard (decide (0 ≤ x10_) && decide (x10_ < (((Int.toNat x.2.1) : Nat) : Int)))
 (M.store ((Addr.mk b0_ 0 none).add ((Int.toNat x10_) * 1)) [(.bool true)]
 (M.pure (.inl ((IntKind.i64.wrap (s1_.1 + 1)), ())))))))))) fun go5_ =>
 M.guard (decide (0 ≤ s1_.1) && decide (s1_.1 < ((x.1.2.1 : Nat) : Int)))
 (M.deref x.1.1 fun a12_ =>
 M.load (.cell (.int .i64)) 1 (a12_.add ((Int.toNat s1_.1) * 1)) fun (x13_ : Int) =>
 M.ite (decide (x13_ < 0))
 (go5_ (true, ()))
 (M.guard (decide (0 ≤ s1_.1) && decide (s1_.1 < ((x.1.2.1 : Nat) : Int)))
 (M.deref x.1.1 fun a15_ =>
 M.load (.cell (.int .i64)) 1 (a15_.add ((Int.toNat s1_.1) * 1)) fun (x16_ : Int) =>
 M.ite (decide (x16_ ≥ x.2.1))
 (go5_ (true, ()))
 (M.guard (decide (0 ≤ s1_.1) && decide (s1_.1 < ((x.1.2.1 : Nat) : Int)))
 (M.deref x.1.1 fun a18_ =>
 M.load (.cell (.int .i64)) 1 (a18_.add ((Int.toNat s1_.1) * 1)) fun (x19_ : Int) =>
 go5_ ((x19_ == x.2.2.1), ())))))))
 (M.pure (.inr (.inl (()))))) (0, ())) <| M.sum (fun (j21_ : Unit) =>
 M.pure (.tuple ⟨[(.slice (some (Addr.mk b0_ 0 none)) (Int.toNat x.2.1) (Int.toNat x.2.1)), (.bool true)]⟩)) (M.sum (fun (j22_ : ((Option Addr × Nat × Nat)) × (Bool) × Unit) =>
 M.pure (.tuple ⟨[(.slice j22_.1.1 j22_.1.2.1 j22_.1.2.2), (.bool j22_.2.1)]⟩)) (fun _ => M.stuck)))

theorem e99 (X : Task → M Value) (L : LoopI) (x : ((Option Addr × Nat × Nat)) × (Int) × (Int) × Unit) : evBody CC { call := X, loop := L } 99 (shsInj [(.cell .slice), (.cell (.int .i64)), (.cell (.int .i64))] x) = f99 X L x := by kernel_rfl

/-- hayrick/summary.right -/
def f100 (X : Task → M Value) (L : LoopI) (x : (Int) × Unit) : M Value :=
 M.join (fun (j0_ : (Bool) × Unit) =>
 M.pure (.bool j0_.1)) fun go1_ =>
 M.ite (decide (x.1 ≥ 1))
 (go1_ ((decide (x.1 ≤ 254)), ()))
 (go1_ (false, ()))

theorem e100 (X : Task → M Value) (L : LoopI) (x : (Int) × Unit) : evBody CC { call := X, loop := L } 100 (shsInj [(.cell (.int .i64))] x) = f100 X L x := by kernel_rfl

/-- hayrick/summary.Put -/
def f101 (X : Task → M Value) (L : LoopI) (x : (Int) × ((Option Addr × Nat × Nat)) × Unit) : M Value :=
 M.callS (.one (.cell .bool)) (X (.call 100 [(.int .i64 x.1)])) fun (r0_ : Bool) =>
 M.ite (!r0_)
 (M.pure (.tuple ⟨[(.slice none 0 0), (.int .i64 1)]⟩))
 (M.bind (L (σ := (Int) × Unit) (ρ := (Unit) ⊕ ((((Option Addr × Nat × Nat)) × (Int) × Unit) ⊕ (Unit))) (fun s3_ =>
 M.ite (decide (s3_.1 < ((x.2.1.2.1 : Nat) : Int)))
 (M.guard (decide (0 ≤ s3_.1) && decide (s3_.1 < ((x.2.1.2.1 : Nat) : Int)))
 (M.deref x.2.1.1 fun a5_ =>
 M.load (.agg [(.int .i64), .bool, (.int .i64), (.int .i64)]) 4 (a5_.add ((Int.toNat s3_.1) * 4)) fun (x6_ : Int × Bool × Int × Int × Unit) =>
 M.new (.cells [(.int .i64 0), (.bool false), (.int .i64 0), (.int .i64 0)] 58 false (0, 0) false) fun b7_ =>
 M.store (Addr.mk b7_ 0 none) [(.int .i64 x6_.1), (.bool x6_.2.1), (.int .i64 x6_.2.2.1), (.int .i64 x6_.2.2.2.1)]
 (M.load (.agg [(.int .i64), .bool, (.int .i64), (.int .i64)]) 4 (Addr.mk b7_ 0 none) fun (x8_ : Int × Bool × Int × Int × Unit) =>
 M.callS (.one (.cell .bool)) (X (.call 54 [(.agg ⟨[(.int .i64 x8_.1), (.bool x8_.2.1), (.int .i64 x8_.2.2.1), (.int .i64 x8_.2.2.2.1)]⟩)])) fun (r9_ : Bool) =>
 M.ite (!r9_)
 (M.pure (.inr (.inr (.inl ((none, 0, 0), 1, ())))))
 (M.pure (.inl ((IntKind.i64.wrap (s3_.1 + 1)), ()))))))
 (M.pure (.inr (.inl (()))))) (0, ())) <| M.sum (fun (j12_ : Unit) =>
 M.callS (.one (.cell (.int .i64))) (X (.call 58 [(.int .i64 x.1)])) fun (r14_ : Int) =>
 M.ite (decide (((x.2.1.2.1 : Nat) : Int) > r14_))
 (M.pure (.tuple ⟨[(.slice none 0 0), (.int .i64 3)]⟩))
 (M.callS (.one (.cell (.int .i64))) (X (.call 67 [(.int .i64 x.1)])) fun (r16_ : Int) =>
 let v17_ : Int := IntKind.i64.wrap (r16_ * 112)
 M.guard (decide (0 ≤ v17_) && decide (v17_ ≤ v17_) && decide ((1 : Int) * v17_ ≤ 2 ^ 48))
 (M.new (.cells (repeatA [(.int .u8 0)] (Int.toNat v17_)) 5 false (0, 0) false) fun b18_ =>
 M.bind (L (σ := (Int) × Unit) (ρ := (Unit) ⊕ (Unit)) (fun s20_ =>
 M.ite (decide (s20_.1 < ((x.2.1.2.1 : Nat) : Int)))
 (M.join (fun (j22_ : Unit) =>
 M.pure (.inl ((IntKind.i64.wrap (s20_.1 + 1)), ()))) fun go23_ =>
 M.guard (decide (0 ≤ s20_.1) && decide (s20_.1 < ((x.2.1.2.1 : Nat) : Int)))
 (M.deref x.2.1.1 fun a25_ =>
 M.load (.agg [(.int .i64), .bool, (.int .i64), (.int .i64)]) 4 (a25_.add ((Int.toNat s20_.1) * 4)) fun (x26_ : Int × Bool × Int × Int × Unit) =>
 M.new (.cells [(.int .i64 0), (.bool false), (.int .i64 0), (.int .i64 0)] 58 false (0, 0) false) fun b27_ =>
 M.store (Addr.mk b27_ 0 none) [(.int .i64 x26_.1), (.bool x26_.2.1), (.int .i64 x26_.2.2.1), (.int .i64 x26_.2.2.2.1)]
 (let v28_ : Int := IntKind.i64.wrap (8 * s20_.1)
 let v30_ : Int := IntKind.i64.wrap ((IntKind.i64.wrap (8 * s20_.1)) + 8)
 M.guard (decide (0 ≤ v30_) && decide (v30_ ≤ (((Int.toNat v17_) : Nat) : Int)))
 (let v31_ : Nat := (Int.toNat v30_)
 M.guard (decide (0 ≤ v28_) && decide (v28_ ≤ ((v31_ : Nat) : Int)))
 (let v32_ : Nat := (Int.toNat v28_)
 M.load (.cell (.int .i64)) 1 ((Addr.mk b27_ 0 none).add 0) fun (x33_ : Int) =>
 M.load (.cell (.int .i64)) 1 ((Addr.mk b27_ 0 none).add 2) fun (x35_ : Int) =>
 M.guard (decide (0 ≤ 8))
 (M.load (.cell (.int .i64)) 1 ((Addr.mk b27_ 0 none).add 2) fun (x38_ : Int) =>
 M.load (.cell (.int .i64)) 1 ((Addr.mk b27_ 0 none).add 3) fun (x40_ : Int) =>
 M.guard (decide (0 ≤ 0) && decide (0 < (((v31_ - v32_) : Nat) : Int)))
 (M.store (((Addr.mk b18_ 0 none).add (v32_ * 1)).add ((Int.toNat 0) * 1)) [(.int .u8 (IntKind.u8.wrap x33_))]
 (M.load (.cell (.int .i64)) 1 ((Addr.mk b27_ 0 none).add 3) fun (x42_ : Int) => cond (veqv (.int .i64 x42_) (.int .i64 x40_)) (M.load (.cell (.int .i64)) 1 ((Addr.mk b27_ 0 none).add 2) fun (x43_ : Int) => cond (veqv (.int .i64 x43_) (.int .i64 x38_)) (M.load (.cell (.int .i64)) 1 ((Addr.mk b27_ 0 none).add 2) fun (x44_ : Int) => cond (veqv (.int .i64 x44_) (.int .i64 x35_)) (M.guard (decide (0 ≤ 2) && decide (2 < (((v31_ - v32_) : Nat) : Int)))
 (M.store (((Addr.mk b18_ 0 none).add (v32_ * 1)).add ((Int.toNat 2) * 1)) [(.int .u8 (IntKind.u8.wrap (((x35_ : Int)).fdiv (2 ^ (min (Int.toNat 8) IntKind.i64.bits)))))]
 (M.load (.cell (.int .i64)) 1 ((Addr.mk b27_ 0 none).add 3) fun (x45_ : Int) => cond (veqv (.int .i64 x45_) (.int .i64 x40_)) (M.load (.cell (.int .i64)) 1 ((Addr.mk b27_ 0 none).add 2) fun (x46_ : Int) => cond (veqv (.int .i64 x46_) (.int .i64 x38_)) (M.guard (decide (0 ≤ 3) && decide (3 < (((v31_ - v32_) : Nat) : Int)))
 (M.store (((Addr.mk b18_ 0 none).add (v32_ * 1)).add ((Int.toNat 3) * 1)) [(.int .u8 (IntKind.u8.wrap x38_))]
 (M.load (.cell (.int .i64)) 1 ((Addr.mk b27_ 0 none).add 3) fun (x47_ : Int) => cond (veqv (.int .i64 x47_) (.int .i64 x40_)) (M.guard (decide (0 ≤ 7) && decide (7 < (((v31_ - v32_) : Nat) : Int)))
 (M.store (((Addr.mk b18_ 0 none).add (v32_ * 1)).add ((Int.toNat 7) * 1)) [(.int .u8 (IntKind.u8.wrap x40_))]
 (M.load (.cell .bool) 1 ((Addr.mk b27_ 0 none).add 1) fun (x48_ : Bool) =>
 M.ite x48_
 (M.guard (decide (0 ≤ 1) && decide (1 < (((v31_ - v32_) : Nat) : Int)))
 (M.store (((Addr.mk b18_ 0 none).add (v32_ * 1)).add ((Int.toNat 1) * 1)) [(.int .u8 1)]
 (go23_ (()))))
 (go23_ (()))))) M.stuck))) M.stuck) M.stuck))) M.stuck) M.stuck) M.stuck))))))))
 (M.pure (.inr (.inl (()))))) (0, ())) <| M.sum (fun (j49_ : Unit) =>
 M.pure (.tuple ⟨[(.slice (some (Addr.mk b18_ 0 none)) (Int.toNat v17_) (Int.toNat v17_)), (.int .i64 0)]⟩)) (fun _ => M.stuck)))) (M.sum (fun (j50_ : ((Option Addr × Nat × Nat)) × (Int) × Unit) =>
 M.pure (.tuple ⟨[(.slice j50_.1.1 j50_.1.2.1 j50_.1.2.2), (.int .i64 j50_.2.1)]⟩)) (fun _ => M.stuck)))

theorem e101 (X : Task → M Value) (L : LoopI) (x : (Int) × ((Option Addr × Nat × Nat)) × Unit) : evBody CC { call := X, loop := L } 101 (shsInj [(.cell (.int .i64)), (.cell .slice)] x) = f101 X L x := by kernel_rfl

/-- (*hayrick/stripe.Stripes).Write -/
def f102 (X : Task → M Value) (L : LoopI) (x : (Option Addr) × (Int) × (Int) × ((Option Addr × Nat × Nat)) × Unit) : M Value :=
 M.callS (.one (.agg [(.int .i64), (.int .i64), (.int .i64)])) (X (.call 74 [(.pointer x.1)])) fun (r1_ : Int × Int × Int × Unit) =>
 M.callS (.one (.cell (.int .i64))) (X (.call 120 [(.pointer x.1), (.int .i64 0), (.int .i64 x.2.1), (.int .u64 x.2.2.1), (.bool (((x.2.2.2.1.2.1 : Nat) : Int) == (IntKind.i64.wrap (r1_.1 * 448))))])) fun (r4_ : Int) =>
 M.ite (!(r4_ == 0))
 (M.pure (.int .i64 r4_))
 (M.deref x.1 fun a6_ =>
 M.load (.cell .ptr) 1 (a6_.add 0) fun (x7_ : Option Addr) =>
 M.deref x.1 fun a8_ =>
 M.load (.cell (.int .i64)) 1 ((a8_.add 1).add 0) fun (x9_ : Int) =>
 M.callS (.one (.cell (.int .i64))) (X (.call 121 [(.pointer x7_)])) fun (r10_ : Int) =>
 M.load (.cell (.int .i64)) 1 ((a8_.add 1).add 0) fun (x11_ : Int) => cond (veqv (.int .i64 x11_) (.int .i64 x9_)) (M.ite (decide (r10_ < x9_))
 (M.pure (.int .i64 20))
 (M.deref x.1 fun a13_ =>
 M.load (.cell (.int .i64)) 1 ((a13_.add 1).add 0) fun (x14_ : Int) =>
 M.deref x.1 fun a15_ =>
 M.load (.cell (.int .i64)) 1 ((a15_.add 1).add 1) fun (x16_ : Int) =>
 M.callS (.one (.cell .slice)) (X (.call 123 [(.slice x.2.2.2.1.1 x.2.2.2.1.2.1 x.2.2.2.1.2.2)])) fun (r17_ : (Option Addr × Nat × Nat)) =>
 M.load (.cell (.int .i64)) 1 ((a15_.add 1).add 1) fun (x18_ : Int) => cond (veqv (.int .i64 x18_) (.int .i64 x16_)) (M.load (.cell (.int .i64)) 1 ((a13_.add 1).add 0) fun (x19_ : Int) => cond (veqv (.int .i64 x19_) (.int .i64 x14_)) (M.callS (.tuple [(.cell .slice), (.cell (.int .i64))]) (X (.call 122 [(.int .i64 x14_), (.int .i64 x16_), (.slice r17_.1 r17_.2.1 r17_.2.2)])) fun (r20_ : ((Option Addr × Nat × Nat)) × (Int) × Unit) =>
 M.ite (!(r20_.2.1 == 0))
 (M.pure (.int .i64 r20_.2.1))
 (M.bind (L (σ := (Int) × Unit) (ρ := (Unit) ⊕ (((Int) × Unit) ⊕ (Unit))) (fun s23_ =>
 M.ite (decide (s23_.1 < ((r20_.1.2.1 : Nat) : Int)))
 (M.join (fun (j25_ : Unit) =>
 M.pure (.inl ((IntKind.i64.wrap (s23_.1 + 1)), ()))) fun go26_ =>
 M.guard (decide (0 ≤ s23_.1) && decide (s23_.1 < ((r20_.1.2.1 : Nat) : Int)))
 (M.deref r20_.1.1 fun a28_ =>
 M.load (.cell .slice) 1 (a28_.add ((Int.toNat s23_.1) * 1)) fun (x29_ : (Option Addr × Nat × Nat)) =>
 M.deref x.1 fun a30_ =>
 M.load (.cell .ptr) 1 (a30_.add 0) fun (x31_ : Option Addr) =>
 M.callS (.one (.cell .bool)) (X (.call 124 [(.pointer x31_), (.int .i64 s23_.1)])) fun (r32_ : Bool) =>
 M.ite (!r32_)
 (go26_ (()))
 (M.callS (.one (.cell (.int .i64))) (X (.call 125 [(.pointer x.1), (.int .i64 s23_.1), (.int .i64 x.2.1), (.int .u64 x.2.2.1), (.slice x29_.1 x29_.2.1 x29_.2.2)])) fun (r34_ : Int) =>
 M.ite (!(r34_ == 0))
 (M.pure (.inr (.inr (.inl (r34_, ())))))
 (go26_ (())))))
 (M.pure (.inr (.inl (()))))) (0, ())) <| M.sum (fun (j36_ : Unit) =>
 M.pure (.int .i64 0)) (M.sum (fun (j37_ : (Int) × Unit) =>
 M.pure (.int .i64 j37_.1)) (fun _ => M.stuck)))) M.stuck) M.stuck)) M.stuck)

theorem e102 (X : Task → M Value) (L : LoopI) (x : (Option Addr) × (Int) × (Int) × ((Option Addr × Nat × Nat)) × Unit) : evBody CC { call := X, loop := L } 102 (shsInj [(.cell .ptr), (.cell (.int .i64)), (.cell (.int .u64)), (.cell .slice)] x) = f102 X L x := by kernel_rfl

/-- (*hayrick/array.Array).burns -/
def f105 (X : Task → M Value) (L : LoopI) (x : (Option Addr) × Unit) : M Value :=
 M.deref x.1 fun a0_ =>
 M.load (.cell (.int .i64)) 1 (a0_.add 3) fun (x1_ : Int) =>
 M.ite (x1_ == 0)
 (M.pure (.bool false))
 (M.deref x.1 fun a3_ =>
 M.load (.cell (.int .i64)) 1 (a3_.add 3) fun (x4_ : Int) =>
 M.deref x.1 fun a6_ =>
 M.store (a6_.add 3) [(.int .i64 (IntKind.i64.wrap (x4_ - 1)))]
 (M.deref x.1 fun a7_ =>
 M.load (.cell (.int .i64)) 1 (a7_.add 3) fun (x8_ : Int) =>
 M.deref x.1 fun a10_ =>
 M.store (a10_.add 4) [(.bool (x8_ == 0))]
 (M.deref x.1 fun a11_ =>
 M.load (.cell .bool) 1 (a11_.add 4) fun (x12_ : Bool) =>
 M.pure (.bool x12_))))

theorem e105 (X : Task → M Value) (L : LoopI) (x : (Option Addr) × Unit) : evBody CC { call := X, loop := L } 105 (shsInj [(.cell .ptr)] x) = f105 X L x := by kernel_rfl

/-- (*hayrick/stripe.Stripes).Read -/
def f107 (X : Task → M Value) (L : LoopI) (x : (Option Addr) × (Int) × (Int) × Unit) : M Value :=
 M.new (.cells [(.pointer x.1)] 24 false (0, 0) false) fun b0_ =>
 M.new (.cells [(.int .u64 x.2.2.1)] 75 false (0, 0) false) fun b1_ =>
 M.load (.cell .ptr) 1 (Addr.mk b0_ 0 none) fun (x2_ : Option Addr) =>
 M.load (.cell (.int .u64)) 1 (Addr.mk b1_ 0 none) fun (x3_ : Int) =>
 M.callS (.one (.cell (.int .i64))) (X (.call 120 [(.pointer x2_), (.int .i64 0), (.int .i64 x.2.1), (.int .u64 x3_), (.bool true)])) fun (r4_ : Int) =>
 M.ite (!(r4_ == 0))
 (M.pure (.tuple ⟨[(.slice none 0 0), (.int .i64 r4_)]⟩))
 (M.new (.cells [(.slice none 0 0)] 68 false (0, 0) false) fun b6_ =>
 M.new (.cells [(.slice none 0 0)] 111 false (0, 0) false) fun b7_ =>
 M.load (.cell .ptr) 1 (Addr.mk b0_ 0 none) fun (x8_ : Option Addr) =>
 M.callS (.tuple []) (X (.call 128 [(.pointer x8_), (.int .i64 x.2.1), (.func (.func 129) ⟨[]⟩ ⟨[(.pointer (some (Addr.mk b1_ 0 none))), (.pointer (some (Addr.mk b6_ 0 none))), (.pointer (some (Addr.mk b0_ 0 none))), (.pointer (some (Addr.mk b7_ 0 none)))]⟩)])) fun (r9_ : Unit) =>
 M.load (.cell .slice) 1 (Addr.mk b6_ 0 none) fun (x10_ : (Option Addr × Nat × Nat)) =>
 M.load (.cell .ptr) 1 (Addr.mk b0_ 0 none) fun (x12_ : Option Addr) =>
 M.deref x12_ fun a13_ =>
 M.load (.cell (.int .i64)) 1 ((a13_.add 1).add 0) fun (x14_ : Int) =>
 M.ite (decide (((x10_.2.1 : Nat) : Int) < x14_))
 (M.pure (.tuple ⟨[(.slice none 0 0), (.int .i64 20)]⟩))
 (M.load (.cell .ptr) 1 (Addr.mk b0_ 0 none) fun (x16_ : Option Addr) =>
 M.deref x16_ fun a17_ =>
 M.load (.cell (.int .i64)) 1 ((a17_.add 1).add 0) fun (x18_ : Int) =>
 M.load (.cell .ptr) 1 (Addr.mk b0_ 0 none) fun (x19_ : Option Addr) =>
 M.deref x19_ fun a20_ =>
 M.load (.cell (.int .i64)) 1 ((a20_.add 1).add 1) fun (x21_ : Int) =>
 M.load (.cell .slice) 1 (Addr.mk b6_ 0 none) fun (x22_ : (Option Addr × Nat × Nat)) =>
 M.load (.cell .slice) 1 (Addr.mk b7_ 0 none) fun (x23_ : (Option Addr × Nat × Nat)) =>
 M.callS (.tuple [(.cell .slice), (.cell (.int .i64))]) (X (.call 131 [(.int .i64 x18_), (.int .i64 x21_), (.slice x22_.1 x22_.2.1 x22_.2.2), (.slice x23_.1 x23_.2.1 x23_.2.2)])) fun (r24_ : ((Option Addr × Nat × Nat)) × (Int) × Unit) =>
 M.ite (!(r24_.2.1 == 0))
 (M.pure (.tuple ⟨[(.slice none 0 0), (.int .i64 r24_.2.1)]⟩))
 (M.bind (L (σ := ((Option Addr × Nat × Nat)) × (Int) × Unit) (ρ := (((Option Addr × Nat × Nat)) × Unit) ⊕ (Unit)) (fun s27_ =>
 M.ite (decide (s27_.2.1 < ((r24_.1.2.1 : Nat) : Int)))
 (M.guard (decide (0 ≤ s27_.2.1) && decide (s27_.2.1 < ((r24_.1.2.1 : Nat) : Int)))
 (M.deref r24_.1.1 fun a29_ =>
 M.load (.cell .slice) 1 (a29_.add ((Int.toNat s27_.2.1) * 1)) fun (x30_ : (Option Addr × Nat × Nat)) =>
 M.append 5 1 1 s27_.1.1 s27_.1.2.1 s27_.1.2.2 (.slice x30_.1 x30_.2.1 x30_.2.2) fun a31_ n32_ c33_ =>
 M.pure (.inl ((a31_, n32_, c33_), (IntKind.i64.wrap (s27_.2.1 + 1)), ()))))
 (M.pure (.inr (.inl (s27_.1, ()))))) ((none, 0, 0), 0, ())) <| M.sum (fun (j35_ : ((Option Addr × Nat × Nat)) × Unit) =>
 M.pure (.tuple ⟨[(.slice j35_.1.1 j35_.1.2.1 j35_.1.2.2), (.int .i64 0)]⟩)) (fun _ => M.stuck))))

theorem e107 (X : Task → M Value) (L : LoopI) (x : (Option Addr) × (Int) × (Int) × Unit) : evBody CC { call := X, loop := L } 107 (shsInj [(.cell .ptr), (.cell (.int .i64)), (.cell (.int .u64))] x) = f107 X L x := by kernel_rfl

/-- slices.Clone[[]int,int] -/
def f109 (X : Task → M Value) (L : LoopI) (x : ((Option Addr × Nat × Nat)) × Unit) : M Value :=
 M.ite x.1.1.isNone
 (M.pure (.slice none 0 0))
 (M.new (.cells [] 3 false (0, 0) false) fun b0_ =>
 M.append 3 1 8 (some (Addr.mk b0_ 0 none)) 0 0 (.slice x.1.1 x.1.2.1 x.1.2.2) fun a1_ n2_ c3_ =>
 M.pure (.slice a1_ n2_ c3_))

theorem e109 (X : Task → M Value) (L : LoopI) (x : ((Option Addr × Nat × Nat)) × Unit) : evBody CC { call := X, loop := L } 109 (shsInj [(.cell .slice)] x) = f109 X L x := by kernel_rfl

/-- slices.Sort[[]int,int] -/
def f110 (X : Task → M Value) (L : LoopI) (x : ((Option Addr × Nat × Nat)) × Unit) : M Value :=
 let v0_ : Int := ((x.1.2.1 : Nat) : Int)
 M.callS (.one (.cell (.int .i64))) (X (.call 133 [(.int .u64 (IntKind.u64.wrap v0_))])) fun (r2_ : Int) =>
 M.callS (.tuple []) (X (.call 132 [(.slice x.1.1 x.1.2.1 x.1.2.2), (.int .i64 0), (.int .i64 v0_), (.int .i64 r2_)])) fun (r3_ : Unit) =>
 M.pure (.tuple ⟨[]⟩)

theorem e110 (X : Task → M Value) (L : LoopI) (x : ((Option Addr × Nat × Nat)) × Unit) : evBody CC { call := X, loop := L } 110 (shsInj [(.cell .slice)] x) = f110 X L x := by kernel_rfl

/-- hayrick/inode.numbers -/
def f112 (X : Task → M Value) (L : LoopI) (x : (Int × Int × Int × Int × Int × Int × Int × Int × Int × Int × Int × Unit) × Unit) : M Value :=
 M.new (.cells [(.int .i64 x.1.1), (.int .i64 x.1.2.1), (.int .i64 x.1.2.2.1), (.int .i64 x.1.2.2.2.1), (.int .u32 x.1.2.2.2.2.1), (.int .u32 x.1.2.2.2.2.2.1), (.int .u32 x.1.2.2.2.2.2.2.1), (.int .u32 x.1.2.2.2.2.2.2.2.1), (.int .u32 x.1.2.2.2.2.2.2.2.2.1), (.int .u32 x.1.2.2.2.2.2.2.2.2.2.1), (.int .u32 x.1.2.2.2.2.2.2.2.2.2.2.1)] 34 false (0, 0) false) fun b0_ =>
 M.new (.cells (zc 203) 203 false (0, 0) false) fun b1_ =>
 M.load (.cell (.int .i64)) 1 ((Addr.mk b0_ 0 none).add 0) fun (x2_ : Int) =>
 M.load (.cell (.int .i64)) 1 ((Addr.mk b0_ 0 none).add 1) fun (x4_ : Int) =>
 M.load (.cell (.int .i64)) 1 ((Addr.mk b0_ 0 none).add 3) fun (x6_ : Int) =>
 M.load (.cell (.int .i64)) 1 ((Addr.mk b0_ 0 none).add 2) fun (x8_ : Int) =>
 M.new (.cells (zc 203) 203 false (0, 0) false) fun b10_ =>
 M.store (Addr.mk b10_ 0 none) [(.int .u32 (IntKind.u32.wrap x2_)), (.int .i64 2), (.int .u32 (IntKind.u32.wrap x4_)), (.int .i64 1), (.int .u32 (IntKind.u32.wrap x6_)), (.int .i64 1), (.int .u32 (IntKind.u32.wrap x8_)), (.int .i64 2), (.int .u32 0), (.int .i64 0), (.int .u32 0), (.int .i64 0), (.int .u32 0), (.int .i64 0), (.int .u32 0), (.int .i64 0), (.int .u32 0), (.int .i64 0), (.int .u32 0), (.int .i64 0), (.int .u32 0), (.int .i64 0)]
 (M.load (.agg [(.int .u32), (.int .u32), (.int .u32), (.int .u32), (.int .u32), (.int .u32)]) 6 ((Addr.mk b0_ 0 none).add 4) fun (x11_ : Int × Int × Int × Int × Int × Int × Unit) =>
 M.bind (L (σ := (Int) × Unit) (ρ := (Unit) ⊕ (Unit)) (fun s12_ =>
 M.ite (decide (s12_.1 < 6))
 (M.guard (decide (0 ≤ s12_.1) && decide (s12_.1 < ((6 : Nat) : Int)))
 (M.need ((([(.int .u32 x11_.1), (.int .u32 x11_.2.1), (.int .u32 x11_.2.2.1), (.int .u32 x11_.2.2.2.1), (.int .u32 x11_.2.2.2.2.1), (.int .u32 x11_.2.2.2.2.2.1)])[((Int.toNat s12_.1) * 1)]?).bind ((.cell (.int .u32)) : Sh).prj) fun (x15_ : Int) =>
 let v16_ : Int := IntKind.i64.wrap (4 + s12_.1)
 M.guard (decide (0 ≤ v16_) && decide (v16_ < ((11 : Nat) : Int)))
 (M.store ((Addr.mk b10_ 0 none).add ((Int.toNat v16_) * 2)) [(.int .u32 x15_), (.int .i64 4)]
 (M.pure (.inl ((IntKind.i64.wrap (s12_.1 + 1)), ()))))))
 (M.pure (.inr (.inl (()))))) (0, ())) <| M.sum (fun (j18_ : Unit) =>
 M.load (.cell (.int .u32)) 1 ((Addr.mk b0_ 0 none).add 10) fun (x19_ : Int) =>
 M.guard (decide (0 ≤ 10) && decide (10 < ((11 : Nat) : Int)))
 (M.store ((Addr.mk b10_ 0 none).add ((Int.toNat 10) * 2)) [(.int .u32 x19_), (.int .i64 4)]
 (M.load (.agg [(.int .u32), (.int .i64), (.int .u32), (.int .i64), (.int .u32), (.int .i64), (.int .u32), (.int .i64), (.int .u32), (.int .i64), (.int .u32), (.int .i64), (.int .u32), (.int .i64), (.int .u32), (.int .i64), (.int .u32), (.int .i64), (.int .u32), (.int .i64), (.int .u32), (.int .i64)]) 22 (Addr.mk b10_ 0 none) fun (x20_ : Int × Int × Int × Int × Int × Int × Int × Int × Int × Int × Int × Int × Int × Int × Int × Int × Int × Int × Int × Int × Int × Int × Unit) =>
 M.store (Addr.mk b1_ 0 none) [(.int .u32 x20_.1), (.int .i64 x20_.2.1), (.int .u32 x20_.2.2.1), (.int .i64 x20_.2.2.2.1), (.int .u32 x20_.2.2.2.2.1), (.int .i64 x20_.2.2.2.2.2.1), (.int .u32 x20_.2.2.2.2.2.2.1), (.int .i64 x20_.2.2.2.2.2.2.2.1), (.int .u32 x20_.2.2.2.2.2.2.2.2.1), (.int .i64 x20_.2.2.2.2.2.2.2.2.2.1), (.int .u32 x20_.2.2.2.2.2.2.2.2.2.2.1), (.int .i64 x20_.2.2.2.2.2.2.2.2.2.2.2.1), (.int .u32 x20_.2.2.2.2.2.2.2.2.2.2.2.2.1), (.int .i64 x20_.2.2.2.2.2.2.2.2.2.2.2.2.2.1), (.int .u32 x20_.2.2.2.2.2.2.2.2.2.2.2.2.2.2.1), (.int .i64 x20_.2.2.2.2.2.2.2.2.2.2.2.2.2.2.2.1), (.int .u32 x20_.2.2.2.2.2.2.2.2.2.2.2.2.2.2.2.2.1), (.int .i64 x20_.2.2.2.2.2.2.2.2.2.2.2.2.2.2.2.2.2.1), (.int .u32 x20_.2.2.2.2.2.2.2.2.2.2.2.2.2.2.2.2.2.2.1), (.int .i64 x20_.2.2.2.2.2.2.2.2.2.2.2.2.2.2.2.2.2.2.2.1), (.int .u32 x20_.2.2.2.2.2.2.2.2.2.2.2.2.2.2.2.2.2.2.2.2.1), (.int .i64 x20_.2.2.2.2.2.2.2.2.2.2.2.2.2.2.2.2.2.2.2.2.2.1)]
 (M.load (.agg [(.int .u32), (.int .i64), (.int .u32), (.int .i64), (.int .u32), (.int .i64), (.int .u32), (.int .i64), (.int .u32), (.int .i64), (.int .u32), (.int .i64), (.int .u32), (.int .i64), (.int .u32), (.int .i64), (.int .u32), (.int .i64), (.int .u32), (.int .i64), (.int .u32), (.int .i64)]) 22 (Addr.mk b1_ 0 none) fun (x21_ : Int × Int × Int × Int × Int × Int × Int × Int × Int × Int × Int × Int × Int × Int × Int × Int × Int × Int × Int × Int × Int × Int × Unit) =>
 M.pure (.agg ⟨[(.int .u32 x21_.1), (.int .i64 x21_.2.1), (.int .u32 x21_.2.2.1), (.int .i64 x21_.2.2.2.1), (.int .u32 x21_.2.2.2.2.1), (.int .i64 x21_.2.2.2.2.2.1), (.int .u32 x21_.2.2.2.2.2.2.1), (.int .i64 x21_.2.2.2.2.2.2.2.1), (.int .u32 x21_.2.2.2.2.2.2.2.2.1), (.int .i64 x21_.2.2.2.2.2.2.2.2.2.1), (.int .u32 x21_.2.2.2.2.2.2.2.2.2.2.1), (.int .i64 x21_.2.2.2.2.2.2.2.2.2.2.2.1), (.int .u32 x21_.2.2.2.2.2.2.2.2.2.2.2.2.1), (.int .i64 x21_.2.2.2.2.2.2.2.2.2.2.2.2.2.1), (.int .u32 x21_.2.2.2.2.2.2.2.2.2.2.2.2.2.2.1), (.int .i64 x21_.2.2.2.2.2.2.2.2.2.2.2.2.2.2.2.1), (.int .u32 x21_.2.2.2.2.2.2.2.2.2.2.2.2.2.2.2.2.1), (.int .i64 x21_.2.2.2.2.2.2.2.2.2.2.2.2.2.2.2.2.2.1), (.int .u32 x21_.2.2.2.2.2.2.2.2.2.2.2.2.2.2.2.2.2.2.1), (.int .i64 x21_.2.2.2.2.2.2.2.2.2.2.2.2.2.2.2.2.2.2.2.1), (.int .u32 x21_.2.2.2.2.2.2.2.2.2.2.2.2.2.2.2.2.2.2.2.2.1), (.int .i64 x21_.2.2.2.2.2.2.2.2.2.2.2.2.2.2.2.2.2.2.2.2.2.1)]⟩))))) (fun _ => M.stuck))

theorem e112 (X : Task → M Value) (L : LoopI) (x : (Int × Int × Int × Int × Int × Int × Int × Int × Int × Int × Int × Unit) × Unit) : evBody CC { call := X, loop := L } 112 (shsInj [(.agg [(.int .i64), (.int .i64), (.int .i64), (.int .i64), (.int .u32), (.int .u32), (.int .u32), (.int .u32), (.int .u32), (.int .u32), (.int .u32)])] x) = f112 X L x := by kernel_rfl

/-- slices.IndexFunc[[]uint32,uint32] -/
def f113 (X : Task → M Value) (L : LoopI) (x : ((Option Addr × Nat × Nat)) × (Value) × Unit) : M Value :=
 M.bind (L (σ := (Int) × Unit) (ρ := (Unit) ⊕ (((Int) × Unit) ⊕ (Unit))) (fun s1_ =>
 M.ite (decide (s1_.1 < ((x.1.2.1 : Nat) : Int)))
 (M.guard (decide (0 ≤ s1_.1) && decide (s1_.1 < ((x.1.2.1 : Nat) : Int)))
 (M.deref x.1.1 fun a3_ =>
 M.load (.cell (.int .u32)) 1 (a3_.add ((Int.toNat s1_.1) * 1)) fun (x4_ : Int) =>
 callV CC ⟨X, L⟩ x.2.1 [(.int .u32 x4_)] fun w6_ => M.need (RSh.prj (.one (.cell .bool)) w6_) fun (r5_ : Bool) =>
 M.ite r5_
 (M.pure (.inr (.inr (.inl (s1_.1, ())))))
 (M.pure (.inl ((IntKind.i64.wrap (s1_.1 + 1)), ())))))
 (M.pure (.inr (.inl (()))))) (0, ())) <| M.sum (fun (j8_ : Unit) =>
 M.pure (.int .i64 (-1))) (M.sum (fun (j9_ : (Int) × Unit) =>
 M.pure (.int .i64 j9_.1)) (fun _ => M.stuck))

theorem e113 (X : Task → M Value) (L : LoopI) (x : ((Option Addr × Nat × Nat)) × (Value) × Unit) : evBody CC { call := X, loop := L } 113 (shsInj [(.cell .slice), (.cell .val)] x) = f113 X L x := by kernel_rfl

/-- slices.Chunk[[]byte,byte]$1 -/
def f114 (X : Task → M Value) (L : LoopI) (x : (Value) × (Option Addr) × (Option Addr) × Unit) : M Value :=
 M.bind (L (σ := (Int) × Unit) (ρ := (Unit) ⊕ ((Unit) ⊕ (Unit))) (fun s0_ =>
 M.deref x.2.1 fun a1_ =>
 M.load (.cell .slice) 1 a1_ fun (x2_ : (Option Addr × Nat × Nat)) =>
 M.ite (decide (s0_.1 < ((x2_.2.1 : Nat) : Int)))
 (M.deref x.2.2.1 fun a5_ =>
 M.load (.cell (.int .i64)) 1 a5_ fun (x6_ : Int) =>
 M.deref x.2.1 fun a7_ =>
 M.load (.cell .slice) 1 a7_ fun (x8_ : (Option Addr × Nat × Nat)) =>
 M.guard (decide (0 ≤ s0_.1) && decide (s0_.1 ≤ ((x8_.2.1 : Nat) : Int)))
 (let v10_ : Int := (((x8_.2.1 - (Int.toNat s0_.1)) : Nat) : Int)
 let v11_ : Int := (if v10_ < x6_ then v10_ else x6_)
 M.deref x.2.1 fun a12_ =>
 M.load (.cell .slice) 1 a12_ fun (x13_ : (Option Addr × Nat × Nat)) =>
 let v14_ : Int := IntKind.i64.wrap (s0_.1 + v11_)
 let v15_ : Int := IntKind.i64.wrap (s0_.1 + v11_)
 M.guard (decide (0 ≤ v15_) && decide (v15_ ≤ ((x13_.2.2 : Nat) : Int)))
 (let v16_ : Nat := (Int.toNat v15_)
 M.guard (decide (0 ≤ v14_) && decide (v14_ ≤ ((v16_ : Nat) : Int)))
 (let v17_ : Nat := (Int.toNat v14_)
 M.guard (decide (0 ≤ s0_.1) && decide (s0_.1 ≤ ((v17_ : Nat) : Int)))
 (let v18_ : Nat := (Int.toNat s0_.1)
 callV CC ⟨X, L⟩ x.1 [(.slice (x13_.1.map (·.add (v18_ * 1))) (v17_ - v18_) (v16_ - v18_))] fun w20_ => M.need (RSh.prj (.one (.cell .bool)) w20_) fun (r19_ : Bool) =>
 M.ite (!r19_)
 (M.pure (.inr (.inr (.inl (())))))
 (M.deref x.2.2.1 fun a22_ =>
 M.load (.cell (.int .i64)) 1 a22_ fun (x23_ : Int) =>
 M.pure (.inl ((IntKind.i64.wrap (s0_.1 + x23_)), ()))))))))
 (M.pure (.inr (.inl (()))))) (0, ())) <| M.sum (fun (j25_ : Unit) =>
 M.pure (.tuple ⟨[]⟩)) (M.sum (fun (j26_ : Unit) =>
 M.pure (.tuple ⟨[]⟩)) (fun _ => M.stuck))

theorem e114 (X : Task → M Value) (L : LoopI) (x : (Value) × (Option Addr) × (Option Addr) × Unit) : evBody CC { call := X, loop := L } 114 (shsInj [(.cell .val), (.cell .ptr), (.cell .ptr)] x) = f114 X L x := by kernel_rfl

/-- hayrick/hayrickref06.blank -/
def f115 (X : Task → M Value) (L : LoopI) (x : (Int) × Unit) : M Value :=
 M.new (.cells [(.slice none 0 0), (.bool false)] 213 false (0, 0) false) fun b0_ =>
 M.new (.cells [(.slice none 0 0), (.bool false)] 213 false (0, 0) false) fun b1_ =>
 M.store (Addr.mk b1_ 0 none) [(.slice none 0 0), (.bool false)]
 (M.bind (L (σ := (Int) × Unit) (ρ := (Unit) ⊕ (Unit)) (fun s2_ =>
 M.ite (decide (s2_.1 < x.1))
 (M.load (.cell .slice) 1 ((Addr.mk b1_ 0 none).add 0) fun (x4_ : (Option Addr × Nat × Nat)) =>
 M.guard (decide (0 ≤ 64) && decide (64 ≤ 64) && decide ((1 : Int) * 64 ≤ 2 ^ 48))
 (M.new (.cells (repeatA [(.int .u8 0)] (Int.toNat 64)) 5 false (0, 0) false) fun b5_ =>
 M.new (.cells [(.slice (some (Addr.mk b5_ 0 none)) (Int.toNat 64) (Int.toNat 64))] 49 false (0, 0) false) fun b6_ =>
 M.append 49 1 24 x4_.1 x4_.2.1 x4_.2.2 (.slice (some (Addr.mk b6_ 0 none)) 1 1) fun a7_ n8_ c9_ =>
 M.store ((Addr.mk b1_ 0 none).add 0) [(.slice a7_ n8_ c9_)]
 (M.pure (.inl ((IntKind.i64.wrap (s2_.1 + 1)), ())))))
 (M.pure (.inr (.inl (()))))) (0, ())) <| M.sum (fun (j11_ : Unit) =>
 M.load (.agg [.slice, .bool]) 2 (Addr.mk b1_ 0 none) fun (x12_ : (Option Addr × Nat × Nat) × Bool × Unit) =>
 M.store (Addr.mk b0_ 0 none) [(.slice x12_.1.1 x12_.1.2.1 x12_.1.2.2), (.bool x12_.2.1)]
 (M.load (.agg [.slice, .bool]) 2 (Addr.mk b0_ 0 none) fun (x13_ : (Option Addr × Nat × Nat) × Bool × Unit) =>
 M.pure (.agg ⟨[(.slice x13_.1.1 x13_.1.2.1 x13_.1.2.2), (.bool x13_.2.1)]⟩))) (fun _ => M.stuck))

theorem e115 (X : Task → M Value) (L : LoopI) (x : (Int) × Unit) : evBody CC { call := X, loop := L } 115 (shsInj [(.cell (.int .i64))] x) = f115 X L x := by kernel_rfl

/-- (*hayrick/array.Array).Disks -/
def f116 (X : Task → M Value) (L : LoopI) (x : (Option Addr) × Unit) : M Value :=
 M.eqPtr x.1 none fun (q0_ : Bool) =>
 M.ite q0_
 (M.pure (.int .i64 0))
 (M.deref x.1 fun a1_ =>
 M.load (.cell .slice) 1 (a1_.add 1) fun (x2_ : (Option Addr × Nat × Nat)) =>
 M.pure (.int .i64 ((x2_.2.1 : Nat) : Int)))

theorem e116 (X : Task → M Value) (L : LoopI) (x : (Option Addr) × Unit) : evBody CC { call := X, loop := L } 116 (shsInj [(.cell .ptr)] x) = f116 X L x := by kernel_rfl

/-- hayrick/code.May -/
def f117 (X : Task → M Value) (L : LoopI) (x : (Int) × (Int) × Unit) : M Value :=
 M.join (fun (j0_ : (Bool) × Unit) =>
 M.pure (.bool j0_.1)) fun go1_ =>
 M.ite (decide (x.1 ≥ 1))
 (M.ite (decide (x.2.1 > x.1))
 (go1_ ((decide (x.2.1 ≤ 255)), ()))
 (go1_ (false, ())))
 (go1_ (false, ()))

theorem e117 (X : Task → M Value) (L : LoopI) (x : (Int) × (Int) × Unit) : evBody CC { call := X, loop := L } 117 (shsInj [(.cell (.int .i64)), (.cell (.int .i64))] x) = f117 X L x := by kernel_rfl

/-- (*hayrick/array.Array).Sectors -/
def f118 (X : Task → M Value) (L : LoopI) (x : (Option Addr) × Unit) : M Value :=
 M.eqPtr x.1 none fun (q0_ : Bool) =>
 M.ite q0_
 (M.pure (.int .i64 0))
 (M.deref x.1 fun a1_ =>
 M.load (.cell (.int .i64)) 1 (a1_.add 0) fun (x2_ : Int) =>
 M.pure (.int .i64 x2_))

theorem e118 (X : Task → M Value) (L : LoopI) (x : (Option Addr) × Unit) : evBody CC { call := X, loop := L } 118 (shsInj [(.cell .ptr)] x) = f118 X L x := by kernel_rfl

/-- hayrick/hayrickref04.May -/
def f119 (X : Task → M Value) (L : LoopI) (x : (Int) × (Int) × Unit) : M Value :=
 M.join (fun (j0_ : (Bool) × Unit) =>
 M.pure (.bool j0_.1)) fun go1_ =>
 M.ite (decide (x.1 > 0))
 (M.ite (decide (x.2.1 > x.1))
 (go1_ ((decide (x.2.1 < 256)), ()))
 (go1_ (false, ())))
 (go1_ (false, ()))

theorem e119 (X : Task → M Value) (L : LoopI) (x : (Int) × (Int) × Unit) : evBody CC { call := X, loop := L } 119 (shsInj [(.cell (.int .i64)), (.cell (.int .i64))] x) = f119 X L x := by kernel_rfl

/-- (*hayrick/stripe.Stripes).right -/
def f120 (X : Task → M Value) (L : LoopI) (x : (Option Addr) × (Int) × (Int) × (Int) × (Bool) × Unit) : M Value :=
 M.join (fun (j0_ : (Bool) × Unit) =>
 M.ite j0_.1
 (M.pure (.int .i64 2))
 (M.deref x.1 fun a2_ =>
 M.load (.cell .ptr) 1 (a2_.add 0) fun (x3_ : Option Addr) =>
 M.callS (.one (.cell .bool)) (X (.call 135 [(.pointer x3_)])) fun (r4_ : Bool) =>
 M.ite r4_
 (M.pure (.int .i64 8))
 (M.join (fun (j5_ : (Bool) × Unit) =>
 M.ite j5_.1
 (M.pure (.int .i64 6))
 (M.join (fun (j7_ : (Bool) × Unit) =>
 M.ite j7_.1
 (M.pure (.int .i64 1))
 (M.pure (.int .i64 0))) fun go8_ =>
 M.ite (x.2.2.2.1 == 0)
 (go8_ (true, ()))
 (go8_ ((!x.2.2.2.2.1), ())))) fun go6_ =>
 M.ite (decide (x.2.2.1 < 0))
 (go6_ (true, ()))
 (M.deref x.1 fun a12_ =>
 M.load (.cell (.int .i64)) 1 ((a12_.add 1).add 2) fun (x13_ : Int) =>
 M.ite (decide (x.2.2.1 ≥ x13_))
 (go6_ (true, ()))
 (M.ite (decide (x.2.1 < 0))
 (go6_ (true, ()))
 (M.deref x.1 fun a16_ =>
 M.load (.cell (.int .i64)) 1 ((a16_.add 1).add 1) fun (x17_ : Int) =>
 go6_ ((decide (x.2.1 ≥ x17_)), ()))))))) fun go1_ =>
 M.eqPtr x.1 none fun (q19_ : Bool) =>
 M.ite q19_
 (go1_ (true, ()))
 (M.deref x.1 fun a20_ =>
 M.load (.cell .ptr) 1 (a20_.add 0) fun (x21_ : Option Addr) =>
 M.eqPtr x21_ none fun (q22_ : Bool) =>
 go1_ (q22_, ()))

theorem e120 (X : Task → M Value) (L : LoopI) (x : (Option Addr) × (Int) × (Int) × (Int) × (Bool) × Unit) : evBody CC { call := X, loop := L } 120 (shsInj [(.cell .ptr), (.cell (.int .i64)), (.cell (.int .i64)), (.cell (.int .u64)), (.cell .bool)] x) = f120 X L x := by kernel_rfl

/-- (*hayrick/array.Array).Ons -/
def f121 (X : Task → M Value) (L : LoopI) (x : (Option Addr) × Unit) : M Value :=
 M.callS (.one (.cell (.int .i64))) (X (.call 116 [(.pointer x.1)])) fun (r0_ : Int) =>
 M.bind (L (σ := (Int) × (Int) × Unit) (ρ := ((Int) × Unit) ⊕ (Unit)) (fun s1_ =>
 M.ite (decide (s1_.2.1 < r0_))
 (M.join (fun (j3_ : (Int) × Unit) =>
 M.pure (.inl (j3_.1, (IntKind.i64.wrap (s1_.2.1 + 1)), ()))) fun go4_ =>
 M.callS (.one (.cell .bool)) (X (.call 124 [(.pointer x.1), (.int .i64 s1_.2.1)])) fun (r6_ : Bool) =>
 M.ite r6_
 (go4_ ((IntKind.i64.wrap (s1_.1 + 1)), ()))
 (go4_ (s1_.1, ())))
 (M.pure (.inr (.inl (s1_.1, ()))))) (0, 0, ())) <| M.sum (fun (j8_ : (Int) × Unit) =>
 M.pure (.int .i64 j8_.1)) (fun _ => M.stuck)

theorem e121 (X : Task → M Value) (L : LoopI) (x : (Option Addr) × Unit) : evBody CC { call := X, loop := L } 121 (shsInj [(.cell .ptr)] x) = f121 X L x := by kernel_rfl

/-- hayrick/code.Encode -/
def f122 (X : Task → M Value) (L : LoopI) (x : (Int) × (Int) × ((Option Addr × Nat × Nat)) × Unit) : M Value :=
 M.join (fun (j0_ : (Bool) × Unit) =>
 M.ite j0_.1
 (M.pure (.tuple ⟨[(.slice none 0 0), (.int .i64 1)]⟩))
 (M.bind (L (σ := ((Option Addr × Nat × Nat)) × (Int) × Unit) (ρ := (((Option Addr × Nat × Nat)) × Unit) ⊕ (Unit)) (fun s2_ =>
 M.ite (decide (s2_.2.1 < x.2.1))
 (M.callS (.one (.cell .slice)) (X (.call 138 [(.int .i64 x.1), (.int .i64 s2_.2.1)])) fun (r4_ : (Option Addr × Nat × Nat)) =>
 M.callS (.one (.cell .slice)) (X (.call 137 [(.slice r4_.1 r4_.2.1 r4_.2.2), (.slice x.2.2.1.1 x.2.2.1.2.1 x.2.2.1.2.2)])) fun (r5_ : (Option Addr × Nat × Nat)) =>
 M.new (.cells [(.slice r5_.1 r5_.2.1 r5_.2.2)] 49 false (0, 0) false) fun b6_ =>
 M.append 49 1 24 s2_.1.1 s2_.1.2.1 s2_.1.2.2 (.slice (some (Addr.mk b6_ 0 none)) 1 1) fun a7_ n8_ c9_ =>
 M.pure (.inl ((a7_, n8_, c9_), (IntKind.i64.wrap (s2_.2.1 + 1)), ())))
 (M.pure (.inr (.inl (s2_.1, ()))))) ((none, 0, 0), 0, ())) <| M.sum (fun (j11_ : ((Option Addr × Nat × Nat)) × Unit) =>
 M.pure (.tuple ⟨[(.slice j11_.1.1 j11_.1.2.1 j11_.1.2.2), (.int .i64 0)]⟩)) (fun _ => M.stuck))) fun go1_ =>
 M.callS (.one (.cell .bool)) (X (.call 117 [(.int .i64 x.1), (.int .i64 x.2.1)])) fun (r12_ : Bool) =>
 M.ite (!r12_)
 (go1_ (true, ()))
 (M.ite (!(((x.2.2.1.2.1 : Nat) : Int) == x.1))
 (go1_ (true, ()))
 (M.callS (.one (.cell .bool)) (X (.call 136 [(.slice x.2.2.1.1 x.2.2.1.2.1 x.2.2.1.2.2)])) fun (r16_ : Bool) =>
 go1_ ((!r16_), ())))

theorem e122 (X : Task → M Value) (L : LoopI) (x : (Int) × (Int) × ((Option Addr × Nat × Nat)) × Unit) : evBody CC { call := X, loop := L } 122 (shsInj [(.cell (.int .i64)), (.cell (.int .i64)), (.cell .slice)] x) = f122 X L x := by kernel_rfl

/-- hayrick/stripe.parts -/
def f123 (X : Task → M Value) (L : LoopI) (x : ((Option Addr × Nat × Nat)) × Unit) : M Value :=
 M.bind (L (σ := ((Option Addr × Nat × Nat)) × (Int) × Unit) (ρ := (((Option Addr × Nat × Nat)) × Unit) ⊕ (Unit)) (fun s0_ =>
 M.ite (decide (s0_.2.1 < ((x.1.2.1 : Nat) : Int)))
 (let v3_ : Int := IntKind.i64.wrap (s0_.2.1 + 448)
 let v4_ : Int := IntKind.i64.wrap (s0_.2.1 + 448)
 M.guard (decide (0 ≤ v4_) && decide (v4_ ≤ ((x.1.2.2 : Nat) : Int)))
 (let v5_ : Nat := (Int.toNat v4_)
 M.guard (decide (0 ≤ v3_) && decide (v3_ ≤ ((v5_ : Nat) : Int)))
 (let v6_ : Nat := (Int.toNat v3_)
 M.guard (decide (0 ≤ s0_.2.1) && decide (s0_.2.1 ≤ ((v6_ : Nat) : Int)))
 (let v7_ : Nat := (Int.toNat s0_.2.1)
 M.new (.cells [(.slice (x.1.1.map (·.add (v7_ * 1))) (v6_ - v7_) (v5_ - v7_))] 49 false (0, 0) false) fun b8_ =>
 M.append 49 1 24 s0_.1.1 s0_.1.2.1 s0_.1.2.2 (.slice (some (Addr.mk b8_ 0 none)) 1 1) fun a9_ n10_ c11_ =>
 M.pure (.inl ((a9_, n10_, c11_), (IntKind.i64.wrap (s0_.2.1 + 448)), ()))))))
 (M.pure (.inr (.inl (s0_.1, ()))))) ((none, 0, 0), 0, ())) <| M.sum (fun (j13_ : ((Option Addr × Nat × Nat)) × Unit) =>
 M.pure (.slice j13_.1.1 j13_.1.2.1 j13_.1.2.2)) (fun _ => M.stuck)

theorem e123 (X : Task → M Value) (L : LoopI) (x : ((Option Addr × Nat × Nat)) × Unit) : evBody CC { call := X, loop := L } 123 (shsInj [(.cell .slice)] x) = f123 X L x := by kernel_rfl

/-- (*hayrick/array.Array).On -/
def f124 (X : Task → M Value) (L : LoopI) (x : (Option Addr) × (Int) × Unit) : M Value :=
 M.join (fun (j0_ : (Bool) × Unit) =>
 M.pure (.bool j0_.1)) fun go1_ =>
 M.eqPtr x.1 none fun (q2_ : Bool) =>
 M.ite (!q2_)
 (M.ite (decide (x.2.1 ≥ 0))
 (M.deref x.1 fun a5_ =>
 M.load (.cell .slice) 1 (a5_.add 1) fun (x6_ : (Option Addr × Nat × Nat)) =>
 M.ite (decide (x.2.1 < ((x6_.2.1 : Nat) : Int)))
 (M.deref x.1 fun a9_ =>
 M.load (.cell .slice) 1 (a9_.add 1) fun (x10_ : (Option Addr × Nat × Nat)) =>
 M.guard (decide (0 ≤ x.2.1) && decide (x.2.1 < ((x10_.2.1 : Nat) : Int)))
 (M.deref x10_.1 fun a11_ =>
 M.load (.cell .slice) 1 (a11_.add ((Int.toNat x.2.1) * 1)) fun (x12_ : (Option Addr × Nat × Nat)) =>
 go1_ ((!x12_.1.isNone), ())))
 (go1_ (false, ())))
 (go1_ (false, ())))
 (go1_ (false, ()))

theorem e124 (X : Task → M Value) (L : LoopI) (x : (Option Addr) × (Int) × Unit) : evBody CC { call := X, loop := L } 124 (shsInj [(.cell .ptr), (.cell (.int .i64))] x) = f124 X L x := by kernel_rfl

/-- (*hayrick/stripe.Stripes).put -/
def f125 (X : Task → M Value) (L : LoopI) (x : (Option Addr) × (Int) × (Int) × (Int) × ((Option Addr × Nat × Nat)) × Unit) : M Value :=
 M.callS (.tuple [(.cell .slice), (.cell (.int .i64))]) (X (.call 139 [(.int .u64 x.2.2.2.1), (.slice x.2.2.2.2.1.1 x.2.2.2.2.1.2.1 x.2.2.2.2.1.2.2)])) fun (r0_ : ((Option Addr × Nat × Nat)) × (Int) × Unit) =>
 M.ite (!(r0_.2.1 == 0))
 (M.pure (.int .i64 r0_.2.1))
 (M.bind (L (σ := (Int) × Unit) (ρ := (Unit) ⊕ (((Int) × Unit) ⊕ (Unit))) (fun s3_ =>
 M.ite (decide (s3_.1 < ((r0_.1.2.1 : Nat) : Int)))
 (M.guard (decide (0 ≤ s3_.1) && decide (s3_.1 < ((r0_.1.2.1 : Nat) : Int)))
 (M.deref r0_.1.1 fun a5_ =>
 M.load (.cell .slice) 1 (a5_.add ((Int.toNat s3_.1) * 1)) fun (x6_ : (Option Addr × Nat × Nat)) =>
 M.deref x.1 fun a7_ =>
 M.load (.cell .ptr) 1 (a7_.add 0) fun (x8_ : Option Addr) =>
 M.deref x.1 fun a9_ =>
 M.load (.cell (.int .i64)) 1 (a9_.add 4) fun (x10_ : Int) =>
 M.callS (.one (.cell (.int .i64))) (X (.call 140 [(.pointer x8_), (.int .i64 x.2.1), (.int .i64 (IntKind.i64.wrap ((IntKind.i64.wrap (x10_ + (IntKind.i64.wrap (x.2.2.1 * 8)))) + s3_.1))), (.slice x6_.1 x6_.2.1 x6_.2.2)])) fun (r14_ : Int) =>
 M.ite (!(r14_ == 0))
 (M.pure (.inr (.inr (.inl (r14_, ())))))
 (M.pure (.inl ((IntKind.i64.wrap (s3_.1 + 1)), ())))))
 (M.pure (.inr (.inl (()))))) (0, ())) <| M.sum (fun (j17_ : Unit) =>
 M.pure (.int .i64 0)) (M.sum (fun (j18_ : (Int) × Unit) =>
 M.pure (.int .i64 j18_.1)) (fun _ => M.stuck)))

theorem e125 (X : Task → M Value) (L : LoopI) (x : (Option Addr) × (Int) × (Int) × (Int) × ((Option Addr × Nat × Nat)) × Unit) : evBody CC { call := X, loop := L } 125 (shsInj [(.cell .ptr), (.cell (.int .i64)), (.cell (.int .i64)), (.cell (.int .u64)), (.cell .slice)] x) = f125 X L x := by kernel_rfl

/-- (*hayrick/stripe.Stripes).each -/
def f128 (X : Task → M Value) (L : LoopI) (x : (Option Addr) × (Int) × (Value) × Unit) : M Value :=
 M.deref x.1 fun a0_ =>
 M.load (.cell (.int .i64)) 1 ((a0_.add 1).add 1) fun (x1_ : Int) =>
 M.bind (L (σ := (Int) × Unit) (ρ := (Unit) ⊕ (Unit)) (fun s2_ =>
 M.ite (decide (s2_.1 < x1_))
 (M.join (fun (j4_ : Unit) =>
 M.pure (.inl ((IntKind.i64.wrap (s2_.1 + 1)), ()))) fun go5_ =>
 M.callS (.one (.cell .slice)) (X (.call 141 [(.pointer x.1), (.int .i64 s2_.1), (.int .i64 x.2.1)])) fun (r7_ : (Option Addr × Nat × Nat)) =>
 M.ite (!r7_.1.isNone)
 (callV CC ⟨X, L⟩ x.2.2.1 [(.int .i64 s2_.1), (.slice r7_.1 r7_.2.1 r7_.2.2)] fun w10_ => M.need (RSh.prj (.tuple []) w10_) fun (r9_ : Unit) =>
 go5_ (()))
 (go5_ (())))
 (M.pure (.inr (.inl (()))))) (0, ())) <| M.sum (fun (j11_ : Unit) =>
 M.pure (.tuple ⟨[]⟩)) (fun _ => M.stuck)

theorem e128 (X : Task → M Value) (L : LoopI) (x : (Option Addr) × (Int) × (Value) × Unit) : evBody CC { call := X, loop := L } 128 (shsInj [(.cell .ptr), (.cell (.int .i64)), (.cell .val)] x) = f128 X L x := by kernel_rfl

/-- (*hayrick/stripe.Stripes).Read$1 -/
def f129 (X : Task → M Value) (L : LoopI) (x : (Int) × ((Option Addr × Nat × Nat)) × (Option Addr) × (Option Addr) × (Option Addr) × (Option Addr) × Unit) : M Value :=
 M.callS (.tuple [(.cell (.int .u64)), (.cell .slice), (.cell .bool)]) (X (.call 130 [(.slice x.2.1.1 x.2.1.2.1 x.2.1.2.2)])) fun (r0_ : (Int) × ((Option Addr × Nat × Nat)) × (Bool) × Unit) =>
 M.join (fun (j1_ : (Bool) × Unit) =>
 M.ite j1_.1
 (M.deref x.2.2.2.1 fun a3_ =>
 M.load (.cell .slice) 1 a3_ fun (x4_ : (Option Addr × Nat × Nat)) =>
 M.new (.cells [(.int .i64 x.1)] 3 false (0, 0) false) fun b5_ =>
 M.deref x.2.2.2.2.2.1 fun a6_ =>
 M.load (.cell .slice) 1 a6_ fun (x7_ : (Option Addr × Nat × Nat)) =>
 M.new (.cells [(.slice r0_.2.1.1 r0_.2.1.2.1 r0_.2.1.2.2)] 49 false (0, 0) false) fun b8_ =>
 M.append 3 1 8 x4_.1 x4_.2.1 x4_.2.2 (.slice (some (Addr.mk b5_ 0 none)) 1 1) fun a9_ n10_ c11_ =>
 M.deref x.2.2.2.2.2.1 fun a12_ =>
 M.load (.cell .slice) 1 a12_ fun (x13_ : (Option Addr × Nat × Nat)) => cond (veqv (.slice x13_.1 x13_.2.1 x13_.2.2) (.slice x7_.1 x7_.2.1 x7_.2.2)) (M.append 49 1 24 x7_.1 x7_.2.1 x7_.2.2 (.slice (some (Addr.mk b8_ 0 none)) 1 1) fun a14_ n15_ c16_ =>
 M.deref x.2.2.2.1 fun a17_ =>
 M.store a17_ [(.slice a9_ n10_ c11_)]
 (M.deref x.2.2.2.2.2.1 fun a18_ =>
 M.store a18_ [(.slice a14_ n15_ c16_)]
 (M.pure (.tuple ⟨[]⟩)))) M.stuck)
 (M.pure (.tuple ⟨[]⟩))) fun go2_ =>
 M.ite r0_.2.2.1
 (M.deref x.2.2.1 fun a19_ =>
 M.load (.cell (.int .u64)) 1 a19_ fun (x20_ : Int) =>
 M.ite (r0_.1 == x20_)
 (M.deref x.2.2.2.1 fun a22_ =>
 M.load (.cell .slice) 1 a22_ fun (x23_ : (Option Addr × Nat × Nat)) =>
 M.deref x.2.2.2.2.1 fun a25_ =>
 M.load (.cell .ptr) 1 a25_ fun (x26_ : Option Addr) =>
 M.deref x26_ fun a27_ =>
 M.load (.cell (.int .i64)) 1 ((a27_.add 1).add 0) fun (x28_ : Int) =>
 go2_ ((decide (((x23_.2.1 : Nat) : Int) < x28_)), ()))
 (go2_ (false, ())))
 (go2_ (false, ()))

theorem e129 (X : Task → M Value) (L : LoopI) (x : (Int) × ((Option Addr × Nat × Nat)) × (Option Addr) × (Option Addr) × (Option Addr) × (Option Addr) × Unit) : evBody CC { call := X, loop := L } 129 (shsInj [(.cell (.int .i64)), (.cell .slice), (.cell .ptr), (.cell .ptr), (.cell .ptr), (.cell .ptr)] x) = f129 X L x := by kernel_rfl

/-- hayrick/chunk.Take -/
def f130 (X : Task → M Value) (L : LoopI) (x : ((Option Addr × Nat × Nat)) × Unit) : M Value :=
 M.join (fun (j0_ : (Bool) × Unit) =>
 M.ite j0_.1
 (M.pure (.tuple ⟨[(.int .u64 0), (.slice none 0 0), (.bool false)]⟩))
 (M.guard (decide (0 ≤ 0) && decide (0 < ((x.1.2.1 : Nat) : Int)))
 (M.deref x.1.1 fun a2_ =>
 M.load (.cell .slice) 1 (a2_.add ((Int.toNat 0) * 1)) fun (x3_ : (Option Addr × Nat × Nat)) =>
 M.callS (.tuple [(.cell (.int .u64)), (.cell .slice), (.cell (.int .i64))]) (X (.call 142 [(.slice x3_.1 x3_.2.1 x3_.2.2)])) fun (r4_ : (Int) × ((Option Addr × Nat × Nat)) × (Int) × Unit) =>
 M.new (.cells [(.int .u64 0)] 75 false (0, 0) false) fun b5_ =>
 M.store (Addr.mk b5_ 0 none) [(.int .u64 r4_.1)]
 (M.new (.cells [(.slice none 0 0)] 49 false (0, 0) false) fun b6_ =>
 M.callS (.one (.cell .bool)) (X (.call 144 [(.slice x.1.1 x.1.2.1 x.1.2.2), (.func (.func 143) ⟨[]⟩ ⟨[(.pointer (some (Addr.mk b6_ 0 none))), (.pointer (some (Addr.mk b5_ 0 none)))]⟩)])) fun (r7_ : Bool) =>
 M.ite r7_
 (M.pure (.tuple ⟨[(.int .u64 0), (.slice none 0 0), (.bool false)]⟩))
 (M.load (.cell (.int .u64)) 1 (Addr.mk b5_ 0 none) fun (x8_ : Int) =>
 M.load (.cell .slice) 1 (Addr.mk b6_ 0 none) fun (x9_ : (Option Addr × Nat × Nat)) =>
 M.load (.cell .slice) 1 (Addr.mk b6_ 0 none) fun (x10_ : (Option Addr × Nat × Nat)) => cond (veqv (.slice x10_.1 x10_.2.1 x10_.2.2) (.slice x9_.1 x9_.2.1 x9_.2.2)) (M.pure (.tuple ⟨[(.int .u64 x8_), (.slice x9_.1 x9_.2.1 x9_.2.2), (.bool true)]⟩)) M.stuck))))) fun go1_ =>
 M.ite (((x.1.2.1 : Nat) : Int) == 0)
 (go1_ (true, ()))
 (go1_ ((decide (((x.1.2.1 : Nat) : Int) > 64)), ()))

theorem e130 (X : Task → M Value) (L : LoopI) (x : ((Option Addr × Nat × Nat)) × Unit) : evBody CC { call := X, loop := L } 130 (shsInj [(.cell .slice)] x) = f130 X L x := by kernel_rfl

/-- hayrick/code.Decode -/
def f131 (X : Task → M Value) (L : LoopI) (x : (Int) × (Int) × ((Option Addr × Nat × Nat)) × ((Option Addr × Nat × Nat)) × Unit) : M Value :=
 M.join (fun (j0_ : (Bool) × Unit) =>
 M.ite j0_.1
 (M.pure (.tuple ⟨[(.slice none 0 0), (.int .i64 1)]⟩))
 (M.new (.cells (zc 242) 242 false (0, 0) false) fun b2_ =>
 M.bind (L (σ := (Int) × Unit) (ρ := (Unit) ⊕ ((((Option Addr × Nat × Nat)) × (Int) × Unit) ⊕ (Unit))) (fun s4_ =>
 M.ite (decide (s4_.1 < ((x.2.2.1.2.1 : Nat) : Int)))
 (M.guard (decide (0 ≤ s4_.1) && decide (s4_.1 < ((x.2.2.1.2.1 : Nat) : Int)))
 (M.deref x.2.2.1.1 fun a6_ =>
 M.load (.cell (.int .i64)) 1 (a6_.add ((Int.toNat s4_.1) * 1)) fun (x7_ : Int) =>
 M.join (fun (j8_ : (Bool) × Unit) =>
 M.ite j8_.1
 (M.pure (.inr (.inr (.inl ((none, 0, 0), 1, ())))))
 (M.guard (decide (0 ≤ x7_) && decide (x7_ < ((255 : Nat) : Int)))
 (M.store ((Addr.mk b2_ 0 none).add ((Int.toNat x7_) * 1)) [(.bool true)]
 (M.pure (.inl ((IntKind.i64.wrap (s4_.1 + 1)), ())))))) fun go9_ =>
 M.ite (decide (x7_ < 0))
 (go9_ (true, ()))
 (M.ite (decide (x7_ ≥ x.2.1))
 (go9_ (true, ()))
 (M.guard (decide (0 ≤ x7_) && decide (x7_ < ((255 : Nat) : Int)))
 (M.load (.cell .bool) 1 ((Addr.mk b2_ 0 none).add ((Int.toNat x7_) * 1)) fun (x13_ : Bool) =>
 go9_ (x13_, ()))))))
 (M.pure (.inr (.inl (()))))) (0, ())) <| M.sum (fun (j14_ : Unit) =>
 M.ite (decide (((x.2.2.1.2.1 : Nat) : Int) < x.1))
 (M.pure (.tuple ⟨[(.slice none 0 0), (.int .i64 4)]⟩))
 (M.guard (decide (0 ≤ x.1) && decide (x.1 ≤ ((x.2.2.1.2.2 : Nat) : Int)))
 (let v17_ : Nat := (Int.toNat x.1)
 M.bind (L (σ := ((Option Addr × Nat × Nat)) × (Int) × Unit) (ρ := (((Option Addr × Nat × Nat)) × Unit) ⊕ (Unit)) (fun s19_ =>
 M.ite (decide (s19_.2.1 < (((v17_ - 0) : Nat) : Int)))
 (M.guard (decide (0 ≤ s19_.2.1) && decide (s19_.2.1 < (((v17_ - 0) : Nat) : Int)))
 (M.deref (x.2.2.1.1.map (·.add (0 * 1))) fun a21_ =>
 M.load (.cell (.int .i64)) 1 (a21_.add ((Int.toNat s19_.2.1) * 1)) fun (x22_ : Int) =>
 M.callS (.one (.cell .slice)) (X (.call 138 [(.int .i64 x.1), (.int .i64 x22_)])) fun (r23_ : (Option Addr × Nat × Nat)) =>
 M.new (.cells [(.slice r23_.1 r23_.2.1 r23_.2.2)] 49 false (0, 0) false) fun b24_ =>
 M.append 49 1 24 s19_.1.1 s19_.1.2.1 s19_.1.2.2 (.slice (some (Addr.mk b24_ 0 none)) 1 1) fun a25_ n26_ c27_ =>
 M.pure (.inl ((a25_, n26_, c27_), (IntKind.i64.wrap (s19_.2.1 + 1)), ()))))
 (M.pure (.inr (.inl (s19_.1, ()))))) ((none, 0, 0), 0, ())) <| M.sum (fun (j29_ : ((Option Addr × Nat × Nat)) × Unit) =>
 M.callS (.tuple [(.cell .slice), (.cell (.int .i64))]) (X (.call 145 [(.slice j29_.1.1 j29_.1.2.1 j29_.1.2.2)])) fun (r30_ : ((Option Addr × Nat × Nat)) × (Int) × Unit) =>
 M.ite (!(r30_.2.1 == 0))
 (M.pure (.tuple ⟨[(.slice none 0 0), (.int .i64 r30_.2.1)]⟩))
 (M.guard (decide (0 ≤ x.1) && decide (x.1 ≤ x.1) && decide ((24 : Int) * x.1 ≤ 2 ^ 48))
 (M.new (.cells (repeatA [(.slice none 0 0)] (Int.toNat x.1)) 49 false (0, 0) false) fun b32_ =>
 M.bind (L (σ := (Int) × Unit) (ρ := (Unit) ⊕ (Unit)) (fun s34_ =>
 M.ite (decide (s34_.1 < (((Int.toNat x.1) : Nat) : Int)))
 (M.guard (decide (0 ≤ 0) && decide (0 < ((x.2.2.2.1.2.1 : Nat) : Int)))
 (M.deref x.2.2.2.1.1 fun a36_ =>
 M.load (.cell .slice) 1 (a36_.add ((Int.toNat 0) * 1)) fun (x37_ : (Option Addr × Nat × Nat)) =>
 let v38_ : Int := ((x37_.2.1 : Nat) : Int)
 M.guard (decide (0 ≤ v38_) && decide (v38_ ≤ v38_) && decide ((1 : Int) * v38_ ≤ 2 ^ 48))
 (M.new (.cells (repeatA [(.int .u8 0)] (Int.toNat v38_)) 5 false (0, 0) false) fun b39_ =>
 M.guard (decide (0 ≤ s34_.1) && decide (s34_.1 < (((Int.toNat x.1) : Nat) : Int)))
 (M.store ((Addr.mk b32_ 0 none).add ((Int.toNat s34_.1) * 1)) [(.slice (some (Addr.mk b39_ 0 none)) (Int.toNat v38_) (Int.toNat v38_))]
 (M.guard (decide (0 ≤ s34_.1) && decide (s34_.1 < (((Int.toNat x.1) : Nat) : Int)))
 (M.load (.cell .slice) 1 ((Addr.mk b32_ 0 none).add ((Int.toNat s34_.1) * 1)) fun (x40_ : (Option Addr × Nat × Nat)) =>
 M.guard (decide (0 ≤ s34_.1) && decide (s34_.1 < ((r30_.1.2.1 : Nat) : Int)))
 (M.deref r30_.1.1 fun a41_ =>
 M.load (.cell .slice) 1 (a41_.add ((Int.toNat s34_.1) * 1)) fun (x42_ : (Option Addr × Nat × Nat)) =>
 M.guard (decide (0 ≤ x.1) && decide (x.1 ≤ ((x.2.2.2.1.2.2 : Nat) : Int)))
 (M.callS (.one (.cell .slice)) (X (.call 137 [(.slice x42_.1 x42_.2.1 x42_.2.2), (.slice (x.2.2.2.1.1.map (·.add (0 * 1))) ((Int.toNat x.1) - 0) (x.2.2.2.1.2.2 - 0))])) fun (r44_ : (Option Addr × Nat × Nat)) =>
 M.load (.cell .slice) 1 ((Addr.mk b32_ 0 none).add ((Int.toNat s34_.1) * 1)) fun (x45_ : (Option Addr × Nat × Nat)) => cond (veqv (.slice x45_.1 x45_.2.1 x45_.2.2) (.slice x40_.1 x40_.2.1 x40_.2.2)) (M.copy 1 x40_.1 x40_.2.1 (.slice r44_.1 r44_.2.1 r44_.2.2) fun m46_ =>
 M.pure (.inl ((IntKind.i64.wrap (s34_.1 + 1)), ()))) M.stuck))))))))
 (M.pure (.inr (.inl (()))))) (0, ())) <| M.sum (fun (j48_ : Unit) =>
 M.pure (.tuple ⟨[(.slice (some (Addr.mk b32_ 0 none)) (Int.toNat x.1) (Int.toNat x.1)), (.int .i64 0)]⟩)) (fun _ => M.stuck)))) (fun _ => M.stuck)))) (M.sum (fun (j49_ : ((Option Addr × Nat × Nat)) × (Int) × Unit) =>
 M.pure (.tuple ⟨[(.slice j49_.1.1 j49_.1.2.1 j49_.1.2.2), (.int .i64 j49_.2.1)]⟩)) (fun _ => M.stuck)))) fun go1_ =>
 M.callS (.one (.cell .bool)) (X (.call 117 [(.int .i64 x.1), (.int .i64 x.2.1)])) fun (r50_ : Bool) =>
 M.ite (!r50_)
 (go1_ (true, ()))
 (M.ite (!(((x.2.2.1.2.1 : Nat) : Int) == ((x.2.2.2.1.2.1 : Nat) : Int)))
 (go1_ (true, ()))
 (M.callS (.one (.cell .bool)) (X (.call 136 [(.slice x.2.2.2.1.1 x.2.2.2.1.2.1 x.2.2.2.1.2.2)])) fun (r55_ : Bool) =>
 go1_ ((!r55_), ())))

theorem e131 (X : Task → M Value) (L : LoopI) (x : (Int) × (Int) × ((Option Addr × Nat × Nat)) × ((Option Addr × Nat × Nat)) × Unit) : evBody CC { call := X, loop := L } 131 (shsInj [(.cell (.int .i64)), (.cell (.int .i64)), (.cell .slice), (.cell .slice)] x) = f131 X L x := by kernel_rfl

/-- slices.pdqsortOrdered[int] -/
def f132 (X : Task → M Value) (L : LoopI) (x : ((Option Addr × Nat × Nat)) × (Int) × (Int) × (Int) × Unit) : M Value :=
 M.bind (L (σ := (Int) × (Int) × (Int) × (Bool) × (Bool) × Unit) (ρ := (Unit) ⊕ (Unit)) (fun s0_ =>
 M.join (fun (j1_ : (Int) × (Int) × (Int) × (Bool) × (Bool) × Unit) =>
 M.pure (.inl (j1_.1, j1_.2.1, j1_.2.2.1, j1_.2.2.2.1, j1_.2.2.2.2.1, ()))) fun go2_ =>
 let v3_ : Int := IntKind.i64.wrap (s0_.2.1 - s0_.1)
 M.ite (decide (v3_ ≤ 12))
 (M.callS (.tuple []) (X (.call 146 [(.slice x.1.1 x.1.2.1 x.1.2.2), (.int .i64 s0_.1), (.int .i64 s0_.2.1)])) fun (r5_ : Unit) =>
 M.pure (.inr (.inl (()))))
 (M.ite (s0_.2.2.1 == 0)
 (M.callS (.tuple []) (X (.call 147 [(.slice x.1.1 x.1.2.1 x.1.2.2), (.int .i64 s0_.1), (.int .i64 s0_.2.1)])) fun (r7_ : Unit) =>
 M.pure (.inr (.inl (()))))
 (M.join (fun (j8_ : (Int) × Unit) =>
 M.callS (.tuple [(.cell (.int .i64)), (.cell (.int .i64))]) (X (.call 149 [(.slice x.1.1 x.1.2.1 x.1.2.2), (.int .i64 s0_.1), (.int .i64 s0_.2.1)])) fun (r10_ : (Int) × (Int) × Unit) =>
 M.join (fun (j11_ : (Int) × (Int) × Unit) =>
 M.join (fun (j13_ : Unit) =>
 M.join (fun (j15_ : (Bool) × Unit) =>
 M.ite j15_.1
 (M.callS (.one (.cell (.int .i64))) (X (.call 153 [(.slice x.1.1 x.1.2.1 x.1.2.2), (.int .i64 s0_.1), (.int .i64 s0_.2.1), (.int .i64 j11_.1)])) fun (r17_ : Int) =>
 go2_ (r17_, s0_.2.1, j8_.1, s0_.2.2.2.1, s0_.2.2.2.2.1, ()))
 (M.callS (.tuple [(.cell (.int .i64)), (.cell .bool)]) (X (.call 154 [(.slice x.1.1 x.1.2.1 x.1.2.2), (.int .i64 s0_.1), (.int .i64 s0_.2.1), (.int .i64 j11_.1)])) fun (r18_ : (Int) × (Bool) × Unit) =>
 let v19_ : Int := IntKind.i64.wrap (r18_.1 - s0_.1)
 let v20_ : Int := IntKind.i64.wrap (s0_.2.1 - r18_.1)
 M.guard (!(decide (8 = 0)))
 (let v21_ : Int := IntKind.i64.wrap ((v3_ : Int).tdiv 8)
 M.ite (decide (v19_ < v20_))
 (M.callS (.tuple []) (X (.call 132 [(.slice x.1.1 x.1.2.1 x.1.2.2), (.int .i64 s0_.1), (.int .i64 r18_.1), (.int .i64 j8_.1)])) fun (r24_ : Unit) =>
 go2_ ((IntKind.i64.wrap (r18_.1 + 1)), s0_.2.1, j8_.1, (decide (v19_ ≥ v21_)), r18_.2.1, ()))
 (M.callS (.tuple []) (X (.call 132 [(.slice x.1.1 x.1.2.1 x.1.2.2), (.int .i64 (IntKind.i64.wrap (r18_.1 + 1))), (.int .i64 s0_.2.1), (.int .i64 j8_.1)])) fun (r28_ : Unit) =>
 go2_ (s0_.1, r18_.1, j8_.1, (decide (v20_ ≥ v21_)), r18_.2.1, ()))))) fun go16_ =>
 M.ite (decide (s0_.1 > 0))
 (let v30_ : Int := IntKind.i64.wrap (s0_.1 - 1)
 M.guard (decide (0 ≤ v30_) && decide (v30_ < ((x.1.2.1 : Nat) : Int)))
 (M.deref x.1.1 fun a31_ =>
 M.load (.cell (.int .i64)) 1 (a31_.add ((Int.toNat v30_) * 1)) fun (x32_ : Int) =>
 M.guard (decide (0 ≤ j11_.1) && decide (j11_.1 < ((x.1.2.1 : Nat) : Int)))
 (M.deref x.1.1 fun a33_ =>
 M.load (.cell (.int .i64)) 1 (a33_.add ((Int.toNat j11_.1) * 1)) fun (x34_ : Int) =>
 M.callS (.one (.cell .bool)) (X (.call 152 [(.int .i64 x32_), (.int .i64 x34_)])) fun (r35_ : Bool) =>
 go16_ ((!r35_), ()))))
 (go16_ (false, ()))) fun go14_ =>
 M.join (fun (j37_ : (Bool) × Unit) =>
 M.ite j37_.1
 (M.callS (.one (.cell .bool)) (X (.call 151 [(.slice x.1.1 x.1.2.1 x.1.2.2), (.int .i64 s0_.1), (.int .i64 s0_.2.1)])) fun (r39_ : Bool) =>
 M.ite r39_
 (M.pure (.inr (.inl (()))))
 (go14_ (())))
 (go14_ (()))) fun go38_ =>
 M.ite s0_.2.2.2.1
 (M.ite s0_.2.2.2.2.1
 (go38_ ((j11_.2.1 == 1), ()))
 (go38_ (false, ())))
 (go38_ (false, ()))) fun go12_ =>
 M.ite (r10_.2.1 == 2)
 (M.callS (.tuple []) (X (.call 150 [(.slice x.1.1 x.1.2.1 x.1.2.2), (.int .i64 s0_.1), (.int .i64 s0_.2.1)])) fun (r42_ : Unit) =>
 go12_ ((IntKind.i64.wrap ((IntKind.i64.wrap (s0_.2.1 - 1)) - (IntKind.i64.wrap (r10_.1 - s0_.1)))), 1, ()))
 (go12_ (r10_.1, r10_.2.1, ()))) fun go9_ =>
 M.ite (!s0_.2.2.2.1)
 (M.callS (.tuple []) (X (.call 148 [(.slice x.1.1 x.1.2.1 x.1.2.2), (.int .i64 s0_.1), (.int .i64 s0_.2.1)])) fun (r47_ : Unit) =>
 go9_ ((IntKind.i64.wrap (s0_.2.2.1 - 1)), ()))
 (go9_ (s0_.2.2.1, ()))))) (x.2.1, x.2.2.1, x.2.2.2.1, true, true, ())) <| M.sum (fun (j49_ : Unit) =>
 M.pure (.tuple ⟨[]⟩)) (fun _ => M.stuck)

theorem e132 (X : Task → M Value) (L : LoopI) (x : ((Option Addr × Nat × Nat)) × (Int) × (Int) × (Int) × Unit) : evBody CC { call := X, loop := L } 132 (shsInj [(.cell .slice), (.cell (.int .i64)), (.cell (.int .i64)), (.cell (.int .i64))] x) = f132 X L x := by kernel_rfl

/-- math/bits.Len -/
def f133 (X : Task → M Value) (L : LoopI) (x : (Int) × Unit) : M Value :=
 M.callS (.one (.cell (.int .i64))) (X (.call 156 [(.int .u64 x.1)])) fun (r0_ : Int) =>
 M.pure (.int .i64 r0_)

theorem e133 (X : Task → M Value) (L : LoopI) (x : (Int) × Unit) : evBody CC { call := X, loop := L } 133 (shsInj [(.cell (.int .u64))] x) = f133 X L x := by kernel_rfl

/-- (*hayrick/array.Array).Off -/
def f135 (X : Task → M Value) (L : LoopI) (x : (Option Addr) × Unit) : M Value :=
 M.join (fun (j0_ : (Bool) × Unit) =>
 M.pure (.bool j0_.1)) fun go1_ =>
 M.eqPtr x.1 none fun (q2_ : Bool) =>
 M.ite q2_
 (go1_ (true, ()))
 (M.deref x.1 fun a3_ =>
 M.load (.cell .bool) 1 (a3_.add 4) fun (x4_ : Bool) =>
 go1_ (x4_, ()))

theorem e135 (X : Task → M Value) (L : LoopI) (x : (Option Addr) × Unit) : evBody CC { call := X, loop := L } 135 (shsInj [(.cell .ptr)] x) = f135 X L x := by kernel_rfl

/-- hayrick/code.even -/
def f136 (X : Task → M Value) (L : LoopI) (x : ((Option Addr × Nat × Nat)) × Unit) : M Value :=
 M.bind (L (σ := (Int) × Unit) (ρ := (Unit) ⊕ (((Bool) × Unit) ⊕ (Unit))) (fun s1_ =>
 M.ite (decide (s1_.1 < ((x.1.2.1 : Nat) : Int)))
 (M.guard (decide (0 ≤ s1_.1) && decide (s1_.1 < ((x.1.2.1 : Nat) : Int)))
 (M.deref x.1.1 fun a3_ =>
 M.load (.cell .slice) 1 (a3_.add ((Int.toNat s1_.1) * 1)) fun (x4_ : (Option Addr × Nat × Nat)) =>
 M.guard (decide (0 ≤ 0) && decide (0 < ((x.1.2.1 : Nat) : Int)))
 (M.deref x.1.1 fun a6_ =>
 M.load (.cell .slice) 1 (a6_.add ((Int.toNat 0) * 1)) fun (x7_ : (Option Addr × Nat × Nat)) =>
 M.ite (!(((x4_.2.1 : Nat) : Int) == ((x7_.2.1 : Nat) : Int)))
 (M.pure (.inr (.inr (.inl (false, ())))))
 (M.pure (.inl ((IntKind.i64.wrap (s1_.1 + 1)), ()))))))
 (M.pure (.inr (.inl (()))))) (0, ())) <| M.sum (fun (j11_ : Unit) =>
 M.pure (.bool true)) (M.sum (fun (j12_ : (Bool) × Unit) =>
 M.pure (.bool j12_.1)) (fun _ => M.stuck))

theorem e136 (X : Task → M Value) (L : LoopI) (x : ((Option Addr × Nat × Nat)) × Unit) : evBody CC { call := X, loop := L } 136 (shsInj [(.cell .slice)] x) = f136 X L x := by kernel_rfl

/-- hayrick/code.mix -/
def f137 (X : Task → M Value) (L : LoopI) (x : ((Option Addr × Nat × Nat)) × ((Option Addr × Nat × Nat)) × Unit) : M Value :=
 M.guard (decide (0 ≤ 0) && decide (0 < ((x.2.1.2.1 : Nat) : Int)))
 (M.deref x.2.1.1 fun a0_ =>
 M.load (.cell .slice) 1 (a0_.add ((Int.toNat 0) * 1)) fun (x1_ : (Option Addr × Nat × Nat)) =>
 let v2_ : Int := ((x1_.2.1 : Nat) : Int)
 M.guard (decide (0 ≤ v2_) && decide (v2_ ≤ v2_) && decide ((1 : Int) * v2_ ≤ 2 ^ 48))
 (M.new (.cells (repeatA [(.int .u8 0)] (Int.toNat v2_)) 5 false (0, 0) false) fun b3_ =>
 M.bind (L (σ := (Int) × Unit) (ρ := (Unit) ⊕ (Unit)) (fun s5_ =>
 M.ite (decide (s5_.1 < ((x.2.1.2.1 : Nat) : Int)))
 (M.join (fun (j7_ : Unit) =>
 M.pure (.inl ((IntKind.i64.wrap (s5_.1 + 1)), ()))) fun go8_ =>
 M.guard (decide (0 ≤ s5_.1) && decide (s5_.1 < ((x.2.1.2.1 : Nat) : Int)))
 (M.deref x.2.1.1 fun a10_ =>
 M.load (.cell .slice) 1 (a10_.add ((Int.toNat s5_.1) * 1)) fun (x11_ : (Option Addr × Nat × Nat)) =>
 M.guard (decide (0 ≤ s5_.1) && decide (s5_.1 < ((x.1.2.1 : Nat) : Int)))
 (M.deref x.1.1 fun a12_ =>
 M.load (.cell (.int .u8)) 1 (a12_.add ((Int.toNat s5_.1) * 1)) fun (x13_ : Int) =>
 M.ite (x13_ == 0)
 (go8_ (()))
 (M.bind (L (σ := (Int) × Unit) (ρ := (Unit) ⊕ (Unit)) (fun s16_ =>
 M.ite (decide (s16_.1 < ((x11_.2.1 : Nat) : Int)))
 (M.guard (decide (0 ≤ s16_.1) && decide (s16_.1 < ((x11_.2.1 : Nat) : Int)))
 (M.deref x11_.1 fun a18_ =>
 M.load (.cell (.int .u8)) 1 (a18_.add ((Int.toNat s16_.1) * 1)) fun (x19_ : Int) =>
 M.guard (decide (0 ≤ s16_.1) && decide (s16_.1 < (((Int.toNat v2_) : Nat) : Int)))
 (M.load (.cell (.int .u8)) 1 ((Addr.mk b3_ 0 none).add ((Int.toNat s16_.1) * 1)) fun (x20_ : Int) =>
 M.guard (decide (0 ≤ s5_.1) && decide (s5_.1 < ((x.1.2.1 : Nat) : Int)))
 (M.deref x.1.1 fun a21_ =>
 M.load (.cell (.int .u8)) 1 (a21_.add ((Int.toNat s5_.1) * 1)) fun (x22_ : Int) =>
 M.callS (.one (.cell (.int .u8))) (X (.call 158 [(.int .u8 x19_), (.int .u8 x22_)])) fun (r23_ : Int) =>
 M.load (.cell (.int .u8)) 1 ((Addr.mk b3_ 0 none).add ((Int.toNat s16_.1) * 1)) fun (x24_ : Int) => cond (veqv (.int .u8 x24_) (.int .u8 x20_)) (M.callS (.one (.cell (.int .u8))) (X (.call 157 [(.int .u8 x20_), (.int .u8 r23_)])) fun (r25_ : Int) =>
 M.guard (decide (0 ≤ s16_.1) && decide (s16_.1 < (((Int.toNat v2_) : Nat) : Int)))
 (M.store ((Addr.mk b3_ 0 none).add ((Int.toNat s16_.1) * 1)) [(.int .u8 r25_)]
 (M.pure (.inl ((IntKind.i64.wrap (s16_.1 + 1)), ()))))) M.stuck))))
 (M.pure (.inr (.inl (()))))) (0, ())) <| M.sum (fun (j27_ : Unit) =>
 go8_ (())) (fun _ => M.stuck)))))
 (M.pure (.inr (.inl (()))))) (0, ())) <| M.sum (fun (j28_ : Unit) =>
 M.pure (.slice (some (Addr.mk b3_ 0 none)) (Int.toNat v2_) (Int.toNat v2_))) (fun _ => M.stuck)))

theorem e137 (X : Task → M Value) (L : LoopI) (x : ((Option Addr × Nat × Nat)) × ((Option Addr × Nat × Nat)) × Unit) : evBody CC { call := X, loop := L } 137 (shsInj [(.cell .slice), (.cell .slice)] x) = f137 X L x := by kernel_rfl

/-- hayrick/code.row -/
def f138 (X : Task → M Value) (L : LoopI) (x : (Int) × (Int) × Unit) : M Value :=
 M.guard (decide (0 ≤ x.1) && decide (x.1 ≤ x.1) && decide ((1 : Int) * x.1 ≤ 2 ^ 48))
 (M.new (.cells (repeatA [(.int .u8 0)] (Int.toNat x.1)) 5 false (0, 0) false) fun b0_ =>
 M.bind (L (σ := (Int) × Unit) (ρ := (Unit) ⊕ (Unit)) (fun s2_ =>
 M.ite (decide (s2_.1 < (((Int.toNat x.1) : Nat) : Int)))
 (M.join (fun (j4_ : Unit) =>
 M.pure (.inl ((IntKind.i64.wrap (s2_.1 + 1)), ()))) fun go5_ =>
 M.join (fun (j7_ : (Bool) × Unit) =>
 M.ite j7_.1
 (M.guard (decide (0 ≤ s2_.1) && decide (s2_.1 < (((Int.toNat x.1) : Nat) : Int)))
 (M.store ((Addr.mk b0_ 0 none).add ((Int.toNat s2_.1) * 1)) [(.int .u8 1)]
 (go5_ (()))))
 (M.ite (decide (x.2.1 ≥ x.1))
 (M.callS (.one (.cell (.int .u8))) (X (.call 157 [(.int .u8 (IntKind.u8.wrap x.2.1)), (.int .u8 (IntKind.u8.wrap s2_.1))])) fun (r12_ : Int) =>
 M.callS (.tuple [(.cell (.int .u8)), (.cell (.int .i64))]) (X (.call 159 [(.int .u8 r12_)])) fun (r13_ : (Int) × (Int) × Unit) =>
 M.guard (decide (0 ≤ s2_.1) && decide (s2_.1 < (((Int.toNat x.1) : Nat) : Int)))
 (M.store ((Addr.mk b0_ 0 none).add ((Int.toNat s2_.1) * 1)) [(.int .u8 r13_.1)]
 (go5_ (()))))
 (go5_ (())))) fun go8_ =>
 M.ite (decide (x.2.1 < x.1))
 (go8_ ((x.2.1 == s2_.1), ()))
 (go8_ (false, ())))
 (M.pure (.inr (.inl (()))))) (0, ())) <| M.sum (fun (j16_ : Unit) =>
 M.pure (.slice (some (Addr.mk b0_ 0 none)) (Int.toNat x.1) (Int.toNat x.1))) (fun _ => M.stuck))

theorem e138 (X : Task → M Value) (L : LoopI) (x : (Int) × (Int) × Unit) : evBody CC { call := X, loop := L } 138 (shsInj [(.cell (.int .i64)), (.cell (.int .i64))] x) = f138 X L x := by kernel_rfl

/-- (*hayrick/array.Array).Write -/
def f140 (X : Task → M Value) (L : LoopI) (x : (Option Addr) × (Int) × (Int) × ((Option Addr × Nat × Nat)) × Unit) : M Value :=
 M.callS (.one (.cell (.int .i64))) (X (.call 161 [(.pointer x.1), (.int .i64 x.2.1), (.int .i64 x.2.2.1)])) fun (r0_ : Int) =>
 M.ite (!(r0_ == 0))
 (M.pure (.int .i64 r0_))
 (M.ite (!(((x.2.2.2.1.2.1 : Nat) : Int) == 64))
 (M.pure (.int .i64 1))
 (M.callS (.one (.cell .bool)) (X (.call 105 [(.pointer x.1)])) fun (r4_ : Bool) =>
 M.ite r4_
 (M.pure (.int .i64 8))
 (M.new (.cells (zc 185) 185 false (0, 0) false) fun b5_ =>
 M.store (Addr.mk b5_ 0 none) [(.int .i64 x.2.1), (.int .i64 x.2.2.1), (.int .u8 0), (.int .u8 0), (.int .u8 0), (.int .u8 0), (.int .u8 0), (.int .u8 0), (.int .u8 0), (.int .u8 0), (.int .u8 0), (.int .u8 0), (.int .u8 0), (.int .u8 0), (.int .u8 0), (.int .u8 0), (.int .u8 0), (.int .u8 0), (.int .u8 0), (.int .u8 0), (.int .u8 0), (.int .u8 0), (.int .u8 0), (.int .u8 0), (.int .u8 0), (.int .u8 0), (.int .u8 0), (.int .u8 0), (.int .u8 0), (.int .u8 0), (.int .u8 0), (.int .u8 0), (.int .u8 0), (.int .u8 0), (.int .u8 0), (.int .u8 0), (.int .u8 0), (.int .u8 0), (.int .u8 0), (.int .u8 0), (.int .u8 0), (.int .u8 0), (.int .u8 0), (.int .u8 0), (.int .u8 0), (.int .u8 0), (.int .u8 0), (.int .u8 0), (.int .u8 0), (.int .u8 0), (.int .u8 0), (.int .u8 0), (.int .u8 0), (.int .u8 0), (.int .u8 0), (.int .u8 0), (.int .u8 0), (.int .u8 0), (.int .u8 0), (.int .u8 0), (.int .u8 0), (.int .u8 0), (.int .u8 0), (.int .u8 0), (.int .u8 0), (.int .u8 0)]
 (M.copy 1 (some (((Addr.mk b5_ 0 none).add 2).add (0 * 1))) (64 - 0) (.slice x.2.2.2.1.1 x.2.2.2.1.2.1 x.2.2.2.1.2.2) fun m6_ =>
 M.deref x.1 fun a7_ =>
 M.load (.cell .slice) 1 (a7_.add 2) fun (x8_ : (Option Addr × Nat × Nat)) =>
 M.load .raw 66 (Addr.mk b5_ 0 none) fun (x9_ : List Value) =>
 M.need (fillA (fun i => some (i * 66, 66)) (repeatA (zc 185) 1) [(0, (.agg ⟨x9_⟩))]) fun x10_ =>
 M.new (.cells x10_ 185 false (0, 0) false) fun b11_ =>
 M.append 185 66 80 x8_.1 x8_.2.1 x8_.2.2 (.slice (some (Addr.mk b11_ 0 none)) 1 1) fun a12_ n13_ c14_ =>
 M.deref x.1 fun a15_ =>
 M.store (a15_.add 2) [(.slice a12_ n13_ c14_)]
 (M.pure (.int .i64 0))))))

theorem e140 (X : Task → M Value) (L : LoopI) (x : (Option Addr) × (Int) × (Int) × ((Option Addr × Nat × Nat)) × Unit) : evBody CC { call := X, loop := L } 140 (shsInj [(.cell .ptr), (.cell (.int .i64)), (.cell (.int .i64)), (.cell .slice)] x) = f140 X L x := by kernel_rfl

/-- (*hayrick/stripe.Stripes).sectors -/
def f141 (X : Task → M Value) (L : LoopI) (x : (Option Addr) × (Int) × (Int) × Unit) : M Value :=
 M.bind (L (σ := ((Option Addr × Nat × Nat)) × (Int) × Unit) (ρ := (((Option Addr × Nat × Nat)) × Unit) ⊕ ((((Option Addr × Nat × Nat)) × Unit) ⊕ (Unit))) (fun s0_ =>
 M.ite (decide (s0_.2.1 < 8))
 (M.deref x.1 fun a2_ =>
 M.load (.cell .ptr) 1 (a2_.add 0) fun (x3_ : Option Addr) =>
 M.deref x.1 fun a4_ =>
 M.load (.cell (.int .i64)) 1 (a4_.add 4) fun (x5_ : Int) =>
 M.callS (.tuple [(.cell .slice), (.cell (.int .i64))]) (X (.call 162 [(.pointer x3_), (.int .i64 x.2.1), (.int .i64 (IntKind.i64.wrap ((IntKind.i64.wrap (x5_ + (IntKind.i64.wrap (x.2.2.1 * 8)))) + s0_.2.1)))])) fun (r9_ : ((Option Addr × Nat × Nat)) × (Int) × Unit) =>
 M.ite (!(r9_.2.1 == 0))
 (M.pure (.inr (.inr (.inl ((none, 0, 0), ())))))
 (M.new (.cells [(.slice r9_.1.1 r9_.1.2.1 r9_.1.2.2)] 49 false (0, 0) false) fun b11_ =>
 M.append 49 1 24 s0_.1.1 s0_.1.2.1 s0_.1.2.2 (.slice (some (Addr.mk b11_ 0 none)) 1 1) fun a12_ n13_ c14_ =>
 M.pure (.inl ((a12_, n13_, c14_), (IntKind.i64.wrap (s0_.2.1 + 1)), ()))))
 (M.pure (.inr (.inl (s0_.1, ()))))) ((none, 0, 0), 0, ())) <| M.sum (fun (j16_ : ((Option Addr × Nat × Nat)) × Unit) =>
 M.pure (.slice j16_.1.1 j16_.1.2.1 j16_.1.2.2)) (M.sum (fun (j17_ : ((Option Addr × Nat × Nat)) × Unit) =>
 M.pure (.slice j17_.1.1 j17_.1.2.1 j17_.1.2.2)) (fun _ => M.stuck))

theorem e141 (X : Task → M Value) (L : LoopI) (x : (Option Addr) × (Int) × (Int) × Unit) : evBody CC { call := X, loop := L } 141 (shsInj [(.cell .ptr), (.cell (.int .i64)), (.cell (.int .i64))] x) = f141 X L x := by kernel_rfl

/-- hayrick/stamp.Take -/
def f142 (X : Task → M Value) (L : LoopI) (x : ((Option Addr × Nat × Nat)) × Unit) : M Value :=
 M.ite (decide (((x.1.2.1 : Nat) : Int) < 64))
 (M.pure (.tuple ⟨[(.int .u64 0), (.slice none 0 0), (.int .i64 4)]⟩))
 (M.ite (decide (((x.1.2.1 : Nat) : Int) > 64))
 (M.pure (.tuple ⟨[(.int .u64 0), (.slice none 0 0), (.int .i64 3)]⟩))
 (M.guard (decide (0 ≤ 8) && decide (8 ≤ ((x.1.2.2 : Nat) : Int)))
 (let v4_ : Nat := (Int.toNat 8)
 M.bind (L (σ := (Int) × (Int) × Unit) (ρ := ((Int) × Unit) ⊕ (Unit)) (fun s6_ =>
 M.ite (decide (s6_.2.1 < (((v4_ - 0) : Nat) : Int)))
 (M.guard (decide (0 ≤ s6_.2.1) && decide (s6_.2.1 < (((v4_ - 0) : Nat) : Int)))
 (M.deref (x.1.1.map (·.add (0 * 1))) fun a8_ =>
 M.load (.cell (.int .u8)) 1 (a8_.add ((Int.toNat s6_.2.1) * 1)) fun (x9_ : Int) =>
 M.guard (decide (0 ≤ 8))
 (M.pure (.inl ((bitsV .or .u64 (IntKind.u64.wrap (s6_.1 * 2 ^ (min (Int.toNat 8) IntKind.u64.bits))) (IntKind.u64.wrap x9_)), (IntKind.i64.wrap (s6_.2.1 + 1)), ())))))
 (M.pure (.inr (.inl (s6_.1, ()))))) (0, 0, ())) <| M.sum (fun (j14_ : (Int) × Unit) =>
 M.guard (decide (0 ≤ 8) && decide (8 ≤ ((x.1.2.1 : Nat) : Int)))
 (let v15_ : Nat := (Int.toNat 8)
 M.callS (.one (.cell .slice)) (X (.call 57 [(.slice (x.1.1.map (·.add (v15_ * 1))) (x.1.2.1 - v15_) (x.1.2.2 - v15_))])) fun (r16_ : (Option Addr × Nat × Nat)) =>
 M.pure (.tuple ⟨[(.int .u64 j14_.1), (.slice r16_.1 r16_.2.1 r16_.2.2), (.int .i64 0)]⟩))) (fun _ => M.stuck))))

theorem e142 (X : Task → M Value) (L : LoopI) (x : ((Option Addr × Nat × Nat)) × Unit) : evBody CC { call := X, loop := L } 142 (shsInj [(.cell .slice)] x) = f142 X L x := by kernel_rfl

/-- hayrick/chunk.Take$1 -/
def f143 (X : Task → M Value) (L : LoopI) (x : ((Option Addr × Nat × Nat)) × (Option Addr) × (Option Addr) × Unit) : M Value :=
 M.callS (.tuple [(.cell (.int .u64)), (.cell .slice), (.cell (.int .i64))]) (X (.call 142 [(.slice x.1.1 x.1.2.1 x.1.2.2)])) fun (r0_ : (Int) × ((Option Addr × Nat × Nat)) × (Int) × Unit) =>
 M.deref x.2.1 fun a1_ =>
 M.load (.cell .slice) 1 a1_ fun (x2_ : (Option Addr × Nat × Nat)) =>
 M.append 5 1 1 x2_.1 x2_.2.1 x2_.2.2 (.slice r0_.2.1.1 r0_.2.1.2.1 r0_.2.1.2.2) fun a3_ n4_ c5_ =>
 M.deref x.2.1 fun a6_ =>
 M.store a6_ [(.slice a3_ n4_ c5_)]
 (M.join (fun (j7_ : (Bool) × Unit) =>
 M.pure (.bool j7_.1)) fun go8_ =>
 M.ite (!(r0_.2.2.1 == 0))
 (go8_ (true, ()))
 (M.deref x.2.2.1 fun a10_ =>
 M.load (.cell (.int .u64)) 1 a10_ fun (x11_ : Int) =>
 M.ite (!(r0_.1 == x11_))
 (go8_ (true, ()))
 (go8_ ((r0_.1 == 0), ()))))

theorem e143 (X : Task → M Value) (L : LoopI) (x : ((Option Addr × Nat × Nat)) × (Option Addr) × (Option Addr) × Unit) : evBody CC { call := X, loop := L } 143 (shsInj [(.cell .slice), (.cell .ptr), (.cell .ptr)] x) = f143 X L x := by kernel_rfl

/-- slices.ContainsFunc[[][]byte,[]byte] -/
def f144 (X : Task → M Value) (L : LoopI) (x : ((Option Addr × Nat × Nat)) × (Value) × Unit) : M Value :=
 M.callS (.one (.cell (.int .i64))) (X (.call 163 [(.slice x.1.1 x.1.2.1 x.1.2.2), x.2.1])) fun (r0_ : Int) =>
 M.pure (.bool (decide (r0_ ≥ 0)))

theorem e144 (X : Task → M Value) (L : LoopI) (x : ((Option Addr × Nat × Nat)) × (Value) × Unit) : evBody CC { call := X, loop := L } 144 (shsInj [(.cell .slice), (.cell .val)] x) = f144 X L x := by kernel_rfl

/-- slices.insertionSortOrdered[int] -/
def f146 (X : Task → M Value) (L : LoopI) (x : ((Option Addr × Nat × Nat)) × (Int) × (Int) × Unit) : M Value :=
 M.bind (L (σ := (Int) × Unit) (ρ := (Unit) ⊕ (Unit)) (fun s1_ =>
 M.ite (decide (s1_.1 < x.2.2.1))
 (M.bind (L (σ := (Int) × Unit) (ρ := (Unit) ⊕ (Unit)) (fun s3_ =>
 M.join (fun (j4_ : (Bool) × Unit) =>
 M.ite j4_.1
 (let v6_ : Int := IntKind.i64.wrap (s3_.1 - 1)
 let v7_ : Int := IntKind.i64.wrap (s3_.1 - 1)
 M.guard (decide (0 ≤ v7_) && decide (v7_ < ((x.1.2.1 : Nat) : Int)))
 (M.deref x.1.1 fun a8_ =>
 M.load (.cell (.int .i64)) 1 (a8_.add ((Int.toNat v7_) * 1)) fun (x9_ : Int) =>
 M.guard (decide (0 ≤ s3_.1) && decide (s3_.1 < ((x.1.2.1 : Nat) : Int)))
 (M.deref x.1.1 fun a10_ =>
 M.load (.cell (.int .i64)) 1 (a10_.add ((Int.toNat s3_.1) * 1)) fun (x11_ : Int) =>
 M.guard (decide (0 ≤ s3_.1) && decide (s3_.1 < ((x.1.2.1 : Nat) : Int)))
 (M.deref x.1.1 fun a12_ =>
 M.store (a12_.add ((Int.toNat s3_.1) * 1)) [(.int .i64 x9_)]
 (M.guard (decide (0 ≤ v6_) && decide (v6_ < ((x.1.2.1 : Nat) : Int)))
 (M.deref x.1.1 fun a13_ =>
 M.store (a13_.add ((Int.toNat v6_) * 1)) [(.int .i64 x11_)]
 (M.pure (.inl ((IntKind.i64.wrap (s3_.1 - 1)), ())))))))))
 (M.pure (.inr (.inl (()))))) fun go5_ =>
 M.ite (decide (s3_.1 > x.2.1))
 (M.guard (decide (0 ≤ s3_.1) && decide (s3_.1 < ((x.1.2.1 : Nat) : Int)))
 (M.deref x.1.1 fun a16_ =>
 M.load (.cell (.int .i64)) 1 (a16_.add ((Int.toNat s3_.1) * 1)) fun (x17_ : Int) =>
 let v18_ : Int := IntKind.i64.wrap (s3_.1 - 1)
 M.guard (decide (0 ≤ v18_) && decide (v18_ < ((x.1.2.1 : Nat) : Int)))
 (M.deref x.1.1 fun a19_ =>
 M.load (.cell (.int .i64)) 1 (a19_.add ((Int.toNat v18_) * 1)) fun (x20_ : Int) =>
 M.callS (.one (.cell .bool)) (X (.call 152 [(.int .i64 x17_), (.int .i64 x20_)])) fun (r21_ : Bool) =>
 go5_ (r21_, ()))))
 (go5_ (false, ()))) (s1_.1, ())) <| M.sum (fun (j22_ : Unit) =>
 M.pure (.inl ((IntKind.i64.wrap (s1_.1 + 1)), ()))) (fun _ => M.stuck))
 (M.pure (.inr (.inl (()))))) ((IntKind.i64.wrap (x.2.1 + 1)), ())) <| M.sum (fun (j24_ : Unit) =>
 M.pure (.tuple ⟨[]⟩)) (fun _ => M.stuck)

theorem e146 (X : Task → M Value) (L : LoopI) (x : ((Option Addr × Nat × Nat)) × (Int) × (Int) × Unit) : evBody CC { call := X, loop := L } 146 (shsInj [(.cell .slice), (.cell (.int .i64)), (.cell (.int .i64))] x) = f146 X L x := by kernel_rfl

/-- slices.heapSortOrdered[int] -/
def f147 (X : Task → M Value) (L : LoopI) (x : ((Option Addr × Nat × Nat)) × (Int) × (Int) × Unit) : M Value :=
 let v0_ : Int := IntKind.i64.wrap (x.2.2.1 - x.2.1)
 M.guard (!(decide (2 = 0)))
 (M.bind (L (σ := (Int) × Unit) (ρ := (Unit) ⊕ (Unit)) (fun s3_ =>
 M.ite (decide (s3_.1 ≥ 0))
 (M.callS (.tuple []) (X (.call 168 [(.slice x.1.1 x.1.2.1 x.1.2.2), (.int .i64 s3_.1), (.int .i64 v0_), (.int .i64 x.2.1)])) fun (r5_ : Unit) =>
 M.pure (.inl ((IntKind.i64.wrap (s3_.1 - 1)), ())))
 (M.pure (.inr (.inl (()))))) ((IntKind.i64.wrap (((IntKind.i64.wrap (v0_ - 1)) : Int).tdiv 2)), ())) <| M.sum (fun (j7_ : Unit) =>
 M.bind (L (σ := (Int) × Unit) (ρ := (Unit) ⊕ (Unit)) (fun s9_ =>
 M.ite (decide (s9_.1 ≥ 0))
 (let v11_ : Int := IntKind.i64.wrap (x.2.1 + s9_.1)
 let v12_ : Int := IntKind.i64.wrap (x.2.1 + s9_.1)
 M.guard (decide (0 ≤ v12_) && decide (v12_ < ((x.1.2.1 : Nat) : Int)))
 (M.deref x.1.1 fun a13_ =>
 M.load (.cell (.int .i64)) 1 (a13_.add ((Int.toNat v12_) * 1)) fun (x14_ : Int) =>
 M.guard (decide (0 ≤ x.2.1) && decide (x.2.1 < ((x.1.2.1 : Nat) : Int)))
 (M.deref x.1.1 fun a15_ =>
 M.load (.cell (.int .i64)) 1 (a15_.add ((Int.toNat x.2.1) * 1)) fun (x16_ : Int) =>
 M.guard (decide (0 ≤ x.2.1) && decide (x.2.1 < ((x.1.2.1 : Nat) : Int)))
 (M.deref x.1.1 fun a17_ =>
 M.store (a17_.add ((Int.toNat x.2.1) * 1)) [(.int .i64 x14_)]
 (M.guard (decide (0 ≤ v11_) && decide (v11_ < ((x.1.2.1 : Nat) : Int)))
 (M.deref x.1.1 fun a18_ =>
 M.store (a18_.add ((Int.toNat v11_) * 1)) [(.int .i64 x16_)]
 (M.callS (.tuple []) (X (.call 168 [(.slice x.1.1 x.1.2.1 x.1.2.2), (.int .i64 0), (.int .i64 s9_.1), (.int .i64 x.2.1)])) fun (r19_ : Unit) =>
 M.pure (.inl ((IntKind.i64.wrap (s9_.1 - 1)), ())))))))))
 (M.pure (.inr (.inl (()))))) ((IntKind.i64.wrap (v0_ - 1)), ())) <| M.sum (fun (j21_ : Unit) =>
 M.pure (.tuple ⟨[]⟩)) (fun _ => M.stuck)) (fun _ => M.stuck))

theorem e147 (X : Task → M Value) (L : LoopI) (x : ((Option Addr × Nat × Nat)) × (Int) × (Int) × Unit) : evBody CC { call := X, loop := L } 147 (shsInj [(.cell .slice), (.cell (.int .i64)), (.cell (.int .i64))] x) = f147 X L x := by kernel_rfl

/-- slices.breakPatternsOrdered[int] -/
def f148 (X : Task → M Value) (L : LoopI) (x : ((Option Addr × Nat × Nat)) × (Int) × (Int) × Unit) : M Value :=
 let v0_ : Int := IntKind.i64.wrap (x.2.2.1 - x.2.1)
 M.ite (decide (v0_ ≥ 8))
 (M.new (.cells [(.int .u64 0)] 267 false (0, 0) false) fun b3_ =>
 M.store (Addr.mk b3_ 0 none) [(.int .u64 (IntKind.u64.wrap v0_))]
 (M.callS (.one (.cell (.int .u64))) (X (.call 169 [(.int .i64 v0_)])) fun (r4_ : Int) =>
 M.guard (!(decide (4 = 0)))
 (M.bind (L (σ := (Int) × Unit) (ρ := (Unit) ⊕ (Unit)) (fun s9_ =>
 M.guard (!(decide (4 = 0)))
 (M.ite (decide (s9_.1 ≤ (IntKind.i64.wrap ((IntKind.i64.wrap (x.2.1 + (IntKind.i64.wrap ((IntKind.i64.wrap ((v0_ : Int).tdiv 4)) * 2)))) + 1))))
 (M.callS (.one (.cell (.int .u64))) (X (.call 170 [(.pointer (some (Addr.mk b3_ 0 none)))])) fun (r15_ : Int) =>
 let v18_ : Int := IntKind.i64.wrap (bitsV .and .u64 r15_ (IntKind.u64.wrap (r4_ - 1)))
 M.join (fun (j19_ : (Int) × Unit) =>
 let v21_ : Int := IntKind.i64.wrap (x.2.1 + j19_.1)
 let v22_ : Int := IntKind.i64.wrap (x.2.1 + j19_.1)
 M.guard (decide (0 ≤ v22_) && decide (v22_ < ((x.1.2.1 : Nat) : Int)))
 (M.deref x.1.1 fun a23_ =>
 M.load (.cell (.int .i64)) 1 (a23_.add ((Int.toNat v22_) * 1)) fun (x24_ : Int) =>
 M.guard (decide (0 ≤ s9_.1) && decide (s9_.1 < ((x.1.2.1 : Nat) : Int)))
 (M.deref x.1.1 fun a25_ =>
 M.load (.cell (.int .i64)) 1 (a25_.add ((Int.toNat s9_.1) * 1)) fun (x26_ : Int) =>
 M.guard (decide (0 ≤ s9_.1) && decide (s9_.1 < ((x.1.2.1 : Nat) : Int)))
 (M.deref x.1.1 fun a27_ =>
 M.store (a27_.add ((Int.toNat s9_.1) * 1)) [(.int .i64 x24_)]
 (M.guard (decide (0 ≤ v21_) && decide (v21_ < ((x.1.2.1 : Nat) : Int)))
 (M.deref x.1.1 fun a28_ =>
 M.store (a28_.add ((Int.toNat v21_) * 1)) [(.int .i64 x26_)]
 (M.pure (.inl ((IntKind.i64.wrap (s9_.1 + 1)), ()))))))))) fun go20_ =>
 M.ite (decide (v18_ ≥ v0_))
 (go20_ ((IntKind.i64.wrap (v18_ - v0_)), ()))
 (go20_ (v18_, ())))
 (M.pure (.inr (.inl (())))))) ((IntKind.i64.wrap ((IntKind.i64.wrap (x.2.1 + (IntKind.i64.wrap ((IntKind.i64.wrap ((v0_ : Int).tdiv 4)) * 2)))) - 1)), ())) <| M.sum (fun (j32_ : Unit) =>
 M.pure (.tuple ⟨[]⟩)) (fun _ => M.stuck))))
 (M.pure (.tuple ⟨[]⟩))

theorem e148 (X : Task → M Value) (L : LoopI) (x : ((Option Addr × Nat × Nat)) × (Int) × (Int) × Unit) : evBody CC { call := X, loop := L } 148 (shsInj [(.cell .slice), (.cell (.int .i64)), (.cell (.int .i64))] x) = f148 X L x := by kernel_rfl

/-- slices.choosePivotOrdered[int] -/
def f149 (X : Task → M Value) (L : LoopI) (x : ((Option Addr × Nat × Nat)) × (Int) × (Int) × Unit) : M Value :=
 let v0_ : Int := IntKind.i64.wrap (x.2.2.1 - x.2.1)
 M.new (.cells [(.int .i64 0)] 3 false (0, 0) false) fun b1_ =>
 M.guard (!(decide (4 = 0)))
 (let v4_ : Int := IntKind.i64.wrap (x.2.1 + (IntKind.i64.wrap ((IntKind.i64.wrap ((v0_ : Int).tdiv 4)) * 1)))
 M.guard (!(decide (4 = 0)))
 (let v7_ : Int := IntKind.i64.wrap (x.2.1 + (IntKind.i64.wrap ((IntKind.i64.wrap ((v0_ : Int).tdiv 4)) * 2)))
 M.guard (!(decide (4 = 0)))
 (let v10_ : Int := IntKind.i64.wrap (x.2.1 + (IntKind.i64.wrap ((IntKind.i64.wrap ((v0_ : Int).tdiv 4)) * 3)))
 M.join (fun (j11_ : (Int) × Unit) =>
 M.load (.cell (.int .i64)) 1 (Addr.mk b1_ 0 none) fun (x13_ : Int) =>
 M.ite (x13_ == 0)
 (M.pure (.tuple ⟨[(.int .i64 j11_.1), (.int .i64 1)]⟩))
 (M.ite (x13_ == 12)
 (M.pure (.tuple ⟨[(.int .i64 j11_.1), (.int .i64 2)]⟩))
 (M.pure (.tuple ⟨[(.int .i64 j11_.1), (.int .i64 0)]⟩)))) fun go12_ =>
 M.ite (decide (v0_ ≥ 8))
 (M.join (fun (j17_ : (Int) × (Int) × (Int) × Unit) =>
 M.callS (.one (.cell (.int .i64))) (X (.call 172 [(.slice x.1.1 x.1.2.1 x.1.2.2), (.int .i64 j17_.1), (.int .i64 j17_.2.1), (.int .i64 j17_.2.2.1), (.pointer (some (Addr.mk b1_ 0 none)))])) fun (r19_ : Int) =>
 go12_ (r19_, ())) fun go18_ =>
 M.ite (decide (v0_ ≥ 50))
 (M.callS (.one (.cell (.int .i64))) (X (.call 171 [(.slice x.1.1 x.1.2.1 x.1.2.2), (.int .i64 v4_), (.pointer (some (Addr.mk b1_ 0 none)))])) fun (r21_ : Int) =>
 M.callS (.one (.cell (.int .i64))) (X (.call 171 [(.slice x.1.1 x.1.2.1 x.1.2.2), (.int .i64 v7_), (.pointer (some (Addr.mk b1_ 0 none)))])) fun (r22_ : Int) =>
 M.callS (.one (.cell (.int .i64))) (X (.call 171 [(.slice x.1.1 x.1.2.1 x.1.2.2), (.int .i64 v10_), (.pointer (some (Addr.mk b1_ 0 none)))])) fun (r23_ : Int) =>
 go18_ (r21_, r22_, r23_, ()))
 (go18_ (v4_, v7_, v10_, ())))
 (go12_ (v7_, ())))))

theorem e149 (X : Task → M Value) (L : LoopI) (x : ((Option Addr × Nat × Nat)) × (Int) × (Int) × Unit) : evBody CC { call := X, loop := L } 149 (shsInj [(.cell .slice), (.cell (.int .i64)), (.cell (.int .i64))] x) = f149 X L x := by kernel_rfl

/-- slices.reverseRangeOrdered[int] -/
def f150 (X : Task → M Value) (L : LoopI) (x : ((Option Addr × Nat × Nat)) × (Int) × (Int) × Unit) : M Value :=
 M.bind (L (σ := (Int) × (Int) × Unit) (ρ := (Unit) ⊕ (Unit)) (fun s1_ =>
 M.ite (decide (s1_.1 < s1_.2.1))
 (M.guard (decide (0 ≤ s1_.2.1) && decide (s1_.2.1 < ((x.1.2.1 : Nat) : Int)))
 (M.deref x.1.1 fun a3_ =>
 M.load (.cell (.int .i64)) 1 (a3_.add ((Int.toNat s1_.2.1) * 1)) fun (x4_ : Int) =>
 M.guard (decide (0 ≤ s1_.1) && decide (s1_.1 < ((x.1.2.1 : Nat) : Int)))
 (M.deref x.1.1 fun a5_ =>
 M.load (.cell (.int .i64)) 1 (a5_.add ((Int.toNat s1_.1) * 1)) fun (x6_ : Int) =>
 M.guard (decide (0 ≤ s1_.1) && decide (s1_.1 < ((x.1.2.1 : Nat) : Int)))
 (M.deref x.1.1 fun a7_ =>
 M.store (a7_.add ((Int.toNat s1_.1) * 1)) [(.int .i64 x4_)]
 (M.guard (decide (0 ≤ s1_.2.1) && decide (s1_.2.1 < ((x.1.2.1 : Nat) : Int)))
 (M.deref x.1.1 fun a8_ =>
 M.store (a8_.add ((Int.toNat s1_.2.1) * 1)) [(.int .i64 x6_)]
 (M.pure (.inl ((IntKind.i64.wrap (s1_.1 + 1)), (IntKind.i64.wrap (s1_.2.1 - 1)), ())))))))))
 (M.pure (.inr (.inl (()))))) (x.2.1, (IntKind.i64.wrap (x.2.2.1 - 1)), ())) <| M.sum (fun (j11_ : Unit) =>
 M.pure (.tuple ⟨[]⟩)) (fun _ => M.stuck)

theorem e150 (X : Task → M Value) (L : LoopI) (x : ((Option Addr × Nat × Nat)) × (Int) × (Int) × Unit) : evBody CC { call := X, loop := L } 150 (shsInj [(.cell .slice), (.cell (.int .i64)), (.cell (.int .i64))] x) = f150 X L x := by kernel_rfl

/-- slices.partialInsertionSortOrdered[int] -/
def f151 (X : Task → M Value) (L : LoopI) (x : ((Option Addr × Nat × Nat)) × (Int) × (Int) × Unit) : M Value :=
 M.bind (L (σ := (Int) × (Int) × Unit) (ρ := (Unit) ⊕ (((Bool) × Unit) ⊕ (Unit))) (fun s1_ =>
 M.ite (decide (s1_.2.1 < 5))
 (M.join (fun (j3_ : (Int) × Unit) =>
 M.pure (.inl (j3_.1, (IntKind.i64.wrap (s1_.2.1 + 1)), ()))) fun go4_ =>
 M.bind (L (σ := (Int) × Unit) (ρ := ((Int) × Unit) ⊕ (Unit)) (fun s6_ =>
 M.join (fun (j7_ : (Bool) × Unit) =>
 M.ite j7_.1
 (M.pure (.inl ((IntKind.i64.wrap (s6_.1 + 1)), ())))
 (M.pure (.inr (.inl (s6_.1, ()))))) fun go8_ =>
 M.ite (decide (s6_.1 < x.2.2.1))
 (M.guard (decide (0 ≤ s6_.1) && decide (s6_.1 < ((x.1.2.1 : Nat) : Int)))
 (M.deref x.1.1 fun a11_ =>
 M.load (.cell (.int .i64)) 1 (a11_.add ((Int.toNat s6_.1) * 1)) fun (x12_ : Int) =>
 let v13_ : Int := IntKind.i64.wrap (s6_.1 - 1)
 M.guard (decide (0 ≤ v13_) && decide (v13_ < ((x.1.2.1 : Nat) : Int)))
 (M.deref x.1.1 fun a14_ =>
 M.load (.cell (.int .i64)) 1 (a14_.add ((Int.toNat v13_) * 1)) fun (x15_ : Int) =>
 M.callS (.one (.cell .bool)) (X (.call 152 [(.int .i64 x12_), (.int .i64 x15_)])) fun (r16_ : Bool) =>
 go8_ ((!r16_), ()))))
 (go8_ (false, ()))) (s1_.1, ())) <| M.sum (fun (j18_ : (Int) × Unit) =>
 M.ite (j18_.1 == x.2.2.1)
 (M.pure (.inr (.inr (.inl (true, ())))))
 (M.ite (decide ((IntKind.i64.wrap (x.2.2.1 - x.2.1)) < 50))
 (M.pure (.inr (.inr (.inl (false, ())))))
 (let v22_ : Int := IntKind.i64.wrap (j18_.1 - 1)
 let v23_ : Int := IntKind.i64.wrap (j18_.1 - 1)
 M.guard (decide (0 ≤ v23_) && decide (v23_ < ((x.1.2.1 : Nat) : Int)))
 (M.deref x.1.1 fun a24_ =>
 M.load (.cell (.int .i64)) 1 (a24_.add ((Int.toNat v23_) * 1)) fun (x25_ : Int) =>
 M.guard (decide (0 ≤ j18_.1) && decide (j18_.1 < ((x.1.2.1 : Nat) : Int)))
 (M.deref x.1.1 fun a26_ =>
 M.load (.cell (.int .i64)) 1 (a26_.add ((Int.toNat j18_.1) * 1)) fun (x27_ : Int) =>
 M.guard (decide (0 ≤ j18_.1) && decide (j18_.1 < ((x.1.2.1 : Nat) : Int)))
 (M.deref x.1.1 fun a28_ =>
 M.store (a28_.add ((Int.toNat j18_.1) * 1)) [(.int .i64 x25_)]
 (M.guard (decide (0 ≤ v22_) && decide (v22_ < ((x.1.2.1 : Nat) : Int)))
 (M.deref x.1.1 fun a29_ =>
 M.store (a29_.add ((Int.toNat v22_) * 1)) [(.int .i64 x27_)]
 (M.join (fun (j30_ : Unit) =>
 M.ite (decide ((IntKind.i64.wrap (x.2.2.1 - j18_.1)) ≥ 2))
 (M.bind (L (σ := (Int) × Unit) (ρ := (Unit) ⊕ (Unit)) (fun s35_ =>
 M.ite (decide (s35_.1 < x.2.2.1))
 (M.guard (decide (0 ≤ s35_.1) && decide (s35_.1 < ((x.1.2.1 : Nat) : Int)))
 (M.deref x.1.1 fun a37_ =>
 M.load (.cell (.int .i64)) 1 (a37_.add ((Int.toNat s35_.1) * 1)) fun (x38_ : Int) =>
 let v39_ : Int := IntKind.i64.wrap (s35_.1 - 1)
 M.guard (decide (0 ≤ v39_) && decide (v39_ < ((x.1.2.1 : Nat) : Int)))
 (M.deref x.1.1 fun a40_ =>
 M.load (.cell (.int .i64)) 1 (a40_.add ((Int.toNat v39_) * 1)) fun (x41_ : Int) =>
 M.callS (.one (.cell .bool)) (X (.call 152 [(.int .i64 x38_), (.int .i64 x41_)])) fun (r42_ : Bool) =>
 M.ite (!r42_)
 (M.pure (.inr (.inl (()))))
 (let v44_ : Int := IntKind.i64.wrap (s35_.1 - 1)
 let v45_ : Int := IntKind.i64.wrap (s35_.1 - 1)
 M.guard (decide (0 ≤ v45_) && decide (v45_ < ((x.1.2.1 : Nat) : Int)))
 (M.deref x.1.1 fun a46_ =>
 M.load (.cell (.int .i64)) 1 (a46_.add ((Int.toNat v45_) * 1)) fun (x47_ : Int) =>
 M.guard (decide (0 ≤ s35_.1) && decide (s35_.1 < ((x.1.2.1 : Nat) : Int)))
 (M.deref x.1.1 fun a48_ =>
 M.load (.cell (.int .i64)) 1 (a48_.add ((Int.toNat s35_.1) * 1)) fun (x49_ : Int) =>
 M.guard (decide (0 ≤ s35_.1) && decide (s35_.1 < ((x.1.2.1 : Nat) : Int)))
 (M.deref x.1.1 fun a50_ =>
 M.store (a50_.add ((Int.toNat s35_.1) * 1)) [(.int .i64 x47_)]
 (M.guard (decide (0 ≤ v44_) && decide (v44_ < ((x.1.2.1 : Nat) : Int)))
 (M.deref x.1.1 fun a51_ =>
 M.store (a51_.add ((Int.toNat v44_) * 1)) [(.int .i64 x49_)]
 (M.pure (.inl ((IntKind.i64.wrap (s35_.1 + 1)), ()))))))))))))
 (M.pure (.inr (.inl (()))))) ((IntKind.i64.wrap (j18_.1 + 1)), ())) <| M.sum (fun (j53_ : Unit) =>
 go4_ (j18_.1, ())) (fun _ => M.stuck))
 (go4_ (j18_.1, ()))) fun go31_ =>
 M.ite (decide ((IntKind.i64.wrap (j18_.1 - x.2.1)) ≥ 2))
 (M.bind (L (σ := (Int) × Unit) (ρ := (Unit) ⊕ (Unit)) (fun s57_ =>
 M.ite (decide (s57_.1 ≥ 1))
 (M.guard (decide (0 ≤ s57_.1) && decide (s57_.1 < ((x.1.2.1 : Nat) : Int)))
 (M.deref x.1.1 fun a59_ =>
 M.load (.cell (.int .i64)) 1 (a59_.add ((Int.toNat s57_.1) * 1)) fun (x60_ : Int) =>
 let v61_ : Int := IntKind.i64.wrap (s57_.1 - 1)
 M.guard (decide (0 ≤ v61_) && decide (v61_ < ((x.1.2.1 : Nat) : Int)))
 (M.deref x.1.1 fun a62_ =>
 M.load (.cell (.int .i64)) 1 (a62_.add ((Int.toNat v61_) * 1)) fun (x63_ : Int) =>
 M.callS (.one (.cell .bool)) (X (.call 152 [(.int .i64 x60_), (.int .i64 x63_)])) fun (r64_ : Bool) =>
 M.ite (!r64_)
 (M.pure (.inr (.inl (()))))
 (let v66_ : Int := IntKind.i64.wrap (s57_.1 - 1)
 let v67_ : Int := IntKind.i64.wrap (s57_.1 - 1)
 M.guard (decide (0 ≤ v67_) && decide (v67_ < ((x.1.2.1 : Nat) : Int)))
 (M.deref x.1.1 fun a68_ =>
 M.load (.cell (.int .i64)) 1 (a68_.add ((Int.toNat v67_) * 1)) fun (x69_ : Int) =>
 M.guard (decide (0 ≤ s57_.1) && decide (s57_.1 < ((x.1.2.1 : Nat) : Int)))
 (M.deref x.1.1 fun a70_ =>
 M.load (.cell (.int .i64)) 1 (a70_.add ((Int.toNat s57_.1) * 1)) fun (x71_ : Int) =>
 M.guard (decide (0 ≤ s57_.1) && decide (s57_.1 < ((x.1.2.1 : Nat) : Int)))
 (M.deref x.1.1 fun a72_ =>
 M.store (a72_.add ((Int.toNat s57_.1) * 1)) [(.int .i64 x69_)]
 (M.guard (decide (0 ≤ v66_) && decide (v66_ < ((x.1.2.1 : Nat) : Int)))
 (M.deref x.1.1 fun a73_ =>
 M.store (a73_.add ((Int.toNat v66_) * 1)) [(.int .i64 x71_)]
 (M.pure (.inl ((IntKind.i64.wrap (s57_.1 - 1)), ()))))))))))))
 (M.pure (.inr (.inl (()))))) ((IntKind.i64.wrap (j18_.1 - 1)), ())) <| M.sum (fun (j75_ : Unit) =>
 go31_ (())) (fun _ => M.stuck))
 (go31_ (()))))))))))) (fun _ => M.stuck))
 (M.pure (.inr (.inl (()))))) ((IntKind.i64.wrap (x.2.1 + 1)), 0, ())) <| M.sum (fun (j76_ : Unit) =>
 M.pure (.bool false)) (M.sum (fun (j77_ : (Bool) × Unit) =>
 M.pure (.bool j77_.1)) (fun _ => M.stuck))

theorem e151 (X : Task → M Value) (L : LoopI) (x : ((Option Addr × Nat × Nat)) × (Int) × (Int) × Unit) : evBody CC { call := X, loop := L } 151 (shsInj [(.cell .slice), (.cell (.int .i64)), (.cell (.int .i64))] x) = f151 X L x := by kernel_rfl

/-- cmp.Less[int] -/
def f152 (X : Task → M Value) (L : LoopI) (x : (Int) × (Int) × Unit) : M Value :=
 M.join (fun (j0_ : (Bool) × Unit) =>
 M.pure (.bool j0_.1)) fun go1_ =>
 M.callS (.one (.cell .bool)) (X (.call 173 [(.int .i64 x.1)])) fun (r2_ : Bool) =>
 M.ite r2_
 (M.callS (.one (.cell .bool)) (X (.call 173 [(.int .i64 x.2.1)])) fun (r3_ : Bool) =>
 M.ite (!r3_)
 (go1_ (true, ()))
 (go1_ ((decide (x.1 < x.2.1)), ())))
 (go1_ ((decide (x.1 < x.2.1)), ()))

theorem e152 (X : Task → M Value) (L : LoopI) (x : (Int) × (Int) × Unit) : evBody CC { call := X, loop := L } 152 (shsInj [(.cell (.int .i64)), (.cell (.int .i64))] x) = f152 X L x := by kernel_rfl

/-- slices.partitionEqualOrdered[int] -/
def f153 (X : Task → M Value) (L : LoopI) (x : ((Option Addr × Nat × Nat)) × (Int) × (Int) × (Int) × Unit) : M Value :=
 M.guard (decide (0 ≤ x.2.2.2.1) && decide (x.2.2.2.1 < ((x.1.2.1 : Nat) : Int)))
 (M.deref x.1.1 fun a0_ =>
 M.load (.cell (.int .i64)) 1 (a0_.add ((Int.toNat x.2.2.2.1) * 1)) fun (x1_ : Int) =>
 M.guard (decide (0 ≤ x.2.1) && decide (x.2.1 < ((x.1.2.1 : Nat) : Int)))
 (M.deref x.1.1 fun a2_ =>
 M.load (.cell (.int .i64)) 1 (a2_.add ((Int.toNat x.2.1) * 1)) fun (x3_ : Int) =>
 M.guard (decide (0 ≤ x.2.1) && decide (x.2.1 < ((x.1.2.1 : Nat) : Int)))
 (M.deref x.1.1 fun a4_ =>
 M.store (a4_.add ((Int.toNat x.2.1) * 1)) [(.int .i64 x1_)]
 (M.guard (decide (0 ≤ x.2.2.2.1) && decide (x.2.2.2.1 < ((x.1.2.1 : Nat) : Int)))
 (M.deref x.1.1 fun a5_ =>
 M.store (a5_.add ((Int.toNat x.2.2.2.1) * 1)) [(.int .i64 x3_)]
 (M.bind (L (σ := (Int) × (Int) × Unit) (ρ := ((Int) × Unit) ⊕ (Unit)) (fun s8_ =>
 M.bind (L (σ := (Int) × Unit) (ρ := ((Int) × Unit) ⊕ (Unit)) (fun s9_ =>
 M.join (fun (j10_ : (Bool) × Unit) =>
 M.ite j10_.1
 (M.pure (.inl ((IntKind.i64.wrap (s9_.1 + 1)), ())))
 (M.pure (.inr (.inl (s9_.1, ()))))) fun go11_ =>
 M.ite (decide (s9_.1 ≤ s8_.2.1))
 (M.guard (decide (0 ≤ x.2.1) && decide (x.2.1 < ((x.1.2.1 : Nat) : Int)))
 (M.deref x.1.1 fun a14_ =>
 M.load (.cell (.int .i64)) 1 (a14_.add ((Int.toNat x.2.1) * 1)) fun (x15_ : Int) =>
 M.guard (decide (0 ≤ s9_.1) && decide (s9_.1 < ((x.1.2.1 : Nat) : Int)))
 (M.deref x.1.1 fun a16_ =>
 M.load (.cell (.int .i64)) 1 (a16_.add ((Int.toNat s9_.1) * 1)) fun (x17_ : Int) =>
 M.callS (.one (.cell .bool)) (X (.call 152 [(.int .i64 x15_), (.int .i64 x17_)])) fun (r18_ : Bool) =>
 go11_ ((!r18_), ()))))
 (go11_ (false, ()))) (s8_.1, ())) <| M.sum (fun (j20_ : (Int) × Unit) =>
 M.bind (L (σ := (Int) × Unit) (ρ := ((Int) × Unit) ⊕ (Unit)) (fun s21_ =>
 M.join (fun (j22_ : (Bool) × Unit) =>
 M.ite j22_.1
 (M.pure (.inl ((IntKind.i64.wrap (s21_.1 - 1)), ())))
 (M.pure (.inr (.inl (s21_.1, ()))))) fun go23_ =>
 M.ite (decide (j20_.1 ≤ s21_.1))
 (M.guard (decide (0 ≤ x.2.1) && decide (x.2.1 < ((x.1.2.1 : Nat) : Int)))
 (M.deref x.1.1 fun a26_ =>
 M.load (.cell (.int .i64)) 1 (a26_.add ((Int.toNat x.2.1) * 1)) fun (x27_ : Int) =>
 M.guard (decide (0 ≤ s21_.1) && decide (s21_.1 < ((x.1.2.1 : Nat) : Int)))
 (M.deref x.1.1 fun a28_ =>
 M.load (.cell (.int .i64)) 1 (a28_.add ((Int.toNat s21_.1) * 1)) fun (x29_ : Int) =>
 M.callS (.one (.cell .bool)) (X (.call 152 [(.int .i64 x27_), (.int .i64 x29_)])) fun (r30_ : Bool) =>
 go23_ (r30_, ()))))
 (go23_ (false, ()))) (s8_.2.1, ())) <| M.sum (fun (j31_ : (Int) × Unit) =>
 M.ite (decide (j20_.1 > j31_.1))
 (M.pure (.inr (.inl (j20_.1, ()))))
 (M.guard (decide (0 ≤ j31_.1) && decide (j31_.1 < ((x.1.2.1 : Nat) : Int)))
 (M.deref x.1.1 fun a33_ =>
 M.load (.cell (.int .i64)) 1 (a33_.add ((Int.toNat j31_.1) * 1)) fun (x34_ : Int) =>
 M.guard (decide (0 ≤ j20_.1) && decide (j20_.1 < ((x.1.2.1 : Nat) : Int)))
 (M.deref x.1.1 fun a35_ =>
 M.load (.cell (.int .i64)) 1 (a35_.add ((Int.toNat j20_.1) * 1)) fun (x36_ : Int) =>
 M.guard (decide (0 ≤ j20_.1) && decide (j20_.1 < ((x.1.2.1 : Nat) : Int)))
 (M.deref x.1.1 fun a37_ =>
 M.store (a37_.add ((Int.toNat j20_.1) * 1)) [(.int .i64 x34_)]
 (M.guard (decide (0 ≤ j31_.1) && decide (j31_.1 < ((x.1.2.1 : Nat) : Int)))
 (M.deref x.1.1 fun a38_ =>
 M.store (a38_.add ((Int.toNat j31_.1) * 1)) [(.int .i64 x36_)]
 (M.pure (.inl ((IntKind.i64.wrap (j20_.1 + 1)), (IntKind.i64.wrap (j31_.1 - 1)), ())))))))))) (fun _ => M.stuck)) (fun _ => M.stuck)) ((IntKind.i64.wrap (x.2.1 + 1)), (IntKind.i64.wrap (x.2.2.1 - 1)), ())) <| M.sum (fun (j41_ : (Int) × Unit) =>
 M.pure (.int .i64 j41_.1)) (fun _ => M.stuck)))))))

theorem e153 (X : Task → M Value) (L : LoopI) (x : ((Option Addr × Nat × Nat)) × (Int) × (Int) × (Int) × Unit) : evBody CC { call := X, loop := L } 153 (shsInj [(.cell .slice), (.cell (.int .i64)), (.cell (.int .i64)), (.cell (.int .i64))] x) = f153 X L x := by kernel_rfl

/-- slices.partitionOrdered[int] -/
def f154 (X : Task → M Value) (L : LoopI) (x : ((Option Addr × Nat × Nat)) × (Int) × (Int) × (Int) × Unit) : M Value :=
 M.guard (decide (0 ≤ x.2.2.2.1) && decide (x.2.2.2.1 < ((x.1.2.1 : Nat) : Int)))
 (M.deref x.1.1 fun a0_ =>
 M.load (.cell (.int .i64)) 1 (a0_.add ((Int.toNat x.2.2.2.1) * 1)) fun (x1_ : Int) =>
 M.guard (decide (0 ≤ x.2.1) && decide (x.2.1 < ((x.1.2.1 : Nat) : Int)))
 (M.deref x.1.1 fun a2_ =>
 M.load (.cell (.int .i64)) 1 (a2_.add ((Int.toNat x.2.1) * 1)) fun (x3_ : Int) =>
 M.guard (decide (0 ≤ x.2.1) && decide (x.2.1 < ((x.1.2.1 : Nat) : Int)))
 (M.deref x.1.1 fun a4_ =>
 M.store (a4_.add ((Int.toNat x.2.1) * 1)) [(.int .i64 x1_)]
 (M.guard (decide (0 ≤ x.2.2.2.1) && decide (x.2.2.2.1 < ((x.1.2.1 : Nat) : Int)))
 (M.deref x.1.1 fun a5_ =>
 M.store (a5_.add ((Int.toNat x.2.2.2.1) * 1)) [(.int .i64 x3_)]
 (let v7_ : Int := IntKind.i64.wrap (x.2.2.1 - 1)
 M.bind (L (σ := (Int) × Unit) (ρ := ((Int) × Unit) ⊕ (Unit)) (fun s8_ =>
 M.join (fun (j9_ : (Bool) × Unit) =>
 M.ite j9_.1
 (M.pure (.inl ((IntKind.i64.wrap (s8_.1 + 1)), ())))
 (M.pure (.inr (.inl (s8_.1, ()))))) fun go10_ =>
 M.ite (decide (s8_.1 ≤ v7_))
 (M.guard (decide (0 ≤ s8_.1) && decide (s8_.1 < ((x.1.2.1 : Nat) : Int)))
 (M.deref x.1.1 fun a13_ =>
 M.load (.cell (.int .i64)) 1 (a13_.add ((Int.toNat s8_.1) * 1)) fun (x14_ : Int) =>
 M.guard (decide (0 ≤ x.2.1) && decide (x.2.1 < ((x.1.2.1 : Nat) : Int)))
 (M.deref x.1.1 fun a15_ =>
 M.load (.cell (.int .i64)) 1 (a15_.add ((Int.toNat x.2.1) * 1)) fun (x16_ : Int) =>
 M.callS (.one (.cell .bool)) (X (.call 152 [(.int .i64 x14_), (.int .i64 x16_)])) fun (r17_ : Bool) =>
 go10_ (r17_, ()))))
 (go10_ (false, ()))) ((IntKind.i64.wrap (x.2.1 + 1)), ())) <| M.sum (fun (j18_ : (Int) × Unit) =>
 M.bind (L (σ := (Int) × Unit) (ρ := ((Int) × Unit) ⊕ (Unit)) (fun s19_ =>
 M.join (fun (j20_ : (Bool) × Unit) =>
 M.ite j20_.1
 (M.pure (.inl ((IntKind.i64.wrap (s19_.1 - 1)), ())))
 (M.pure (.inr (.inl (s19_.1, ()))))) fun go21_ =>
 M.ite (decide (j18_.1 ≤ s19_.1))
 (M.guard (decide (0 ≤ s19_.1) && decide (s19_.1 < ((x.1.2.1 : Nat) : Int)))
 (M.deref x.1.1 fun a24_ =>
 M.load (.cell (.int .i64)) 1 (a24_.add ((Int.toNat s19_.1) * 1)) fun (x25_ : Int) =>
 M.guard (decide (0 ≤ x.2.1) && decide (x.2.1 < ((x.1.2.1 : Nat) : Int)))
 (M.deref x.1.1 fun a26_ =>
 M.load (.cell (.int .i64)) 1 (a26_.add ((Int.toNat x.2.1) * 1)) fun (x27_ : Int) =>
 M.callS (.one (.cell .bool)) (X (.call 152 [(.int .i64 x25_), (.int .i64 x27_)])) fun (r28_ : Bool) =>
 go21_ ((!r28_), ()))))
 (go21_ (false, ()))) (v7_, ())) <| M.sum (fun (j30_ : (Int) × Unit) =>
 M.ite (decide (j18_.1 > j30_.1))
 (M.guard (decide (0 ≤ x.2.1) && decide (x.2.1 < ((x.1.2.1 : Nat) : Int)))
 (M.deref x.1.1 fun a32_ =>
 M.load (.cell (.int .i64)) 1 (a32_.add ((Int.toNat x.2.1) * 1)) fun (x33_ : Int) =>
 M.guard (decide (0 ≤ j30_.1) && decide (j30_.1 < ((x.1.2.1 : Nat) : Int)))
 (M.deref x.1.1 fun a34_ =>
 M.load (.cell (.int .i64)) 1 (a34_.add ((Int.toNat j30_.1) * 1)) fun (x35_ : Int) =>
 M.guard (decide (0 ≤ j30_.1) && decide (j30_.1 < ((x.1.2.1 : Nat) : Int)))
 (M.deref x.1.1 fun a36_ =>
 M.store (a36_.add ((Int.toNat j30_.1) * 1)) [(.int .i64 x33_)]
 (M.guard (decide (0 ≤ x.2.1) && decide (x.2.1 < ((x.1.2.1 : Nat) : Int)))
 (M.deref x.1.1 fun a37_ =>
 M.store (a37_.add ((Int.toNat x.2.1) * 1)) [(.int .i64 x35_)]
 (M.pure (.tuple ⟨[(.int .i64 j30_.1), (.bool true)]⟩))))))))
 (M.guard (decide (0 ≤ j30_.1) && decide (j30_.1 < ((x.1.2.1 : Nat) : Int)))
 (M.deref x.1.1 fun a38_ =>
 M.load (.cell (.int .i64)) 1 (a38_.add ((Int.toNat j30_.1) * 1)) fun (x39_ : Int) =>
 M.guard (decide (0 ≤ j18_.1) && decide (j18_.1 < ((x.1.2.1 : Nat) : Int)))
 (M.deref x.1.1 fun a40_ =>
 M.load (.cell (.int .i64)) 1 (a40_.add ((Int.toNat j18_.1) * 1)) fun (x41_ : Int) =>
 M.guard (decide (0 ≤ j18_.1) && decide (j18_.1 < ((x.1.2.1 : Nat) : Int)))
 (M.deref x.1.1 fun a42_ =>
 M.store (a42_.add ((Int.toNat j18_.1) * 1)) [(.int .i64 x39_)]
 (M.guard (decide (0 ≤ j30_.1) && decide (j30_.1 < ((x.1.2.1 : Nat) : Int)))
 (M.deref x.1.1 fun a43_ =>
 M.store (a43_.add ((Int.toNat j30_.1) * 1)) [(.int .i64 x41_)]
 (M.bind (L (σ := (Int) × (Int) × Unit) (ρ := ((Int) × Unit) ⊕ (Unit)) (fun s46_ =>
 M.bind (L (σ := (Int) × Unit) (ρ := ((Int) × Unit) ⊕ (Unit)) (fun s47_ =>
 M.join (fun (j48_ : (Bool) × Unit) =>
 M.ite j48_.1
 (M.pure (.inl ((IntKind.i64.wrap (s47_.1 + 1)), ())))
 (M.pure (.inr (.inl (s47_.1, ()))))) fun go49_ =>
 M.ite (decide (s47_.1 ≤ s46_.2.1))
 (M.guard (decide (0 ≤ s47_.1) && decide (s47_.1 < ((x.1.2.1 : Nat) : Int)))
 (M.deref x.1.1 fun a52_ =>
 M.load (.cell (.int .i64)) 1 (a52_.add ((Int.toNat s47_.1) * 1)) fun (x53_ : Int) =>
 M.guard (decide (0 ≤ x.2.1) && decide (x.2.1 < ((x.1.2.1 : Nat) : Int)))
 (M.deref x.1.1 fun a54_ =>
 M.load (.cell (.int .i64)) 1 (a54_.add ((Int.toNat x.2.1) * 1)) fun (x55_ : Int) =>
 M.callS (.one (.cell .bool)) (X (.call 152 [(.int .i64 x53_), (.int .i64 x55_)])) fun (r56_ : Bool) =>
 go49_ (r56_, ()))))
 (go49_ (false, ()))) (s46_.1, ())) <| M.sum (fun (j57_ : (Int) × Unit) =>
 M.bind (L (σ := (Int) × Unit) (ρ := ((Int) × Unit) ⊕ (Unit)) (fun s58_ =>
 M.join (fun (j59_ : (Bool) × Unit) =>
 M.ite j59_.1
 (M.pure (.inl ((IntKind.i64.wrap (s58_.1 - 1)), ())))
 (M.pure (.inr (.inl (s58_.1, ()))))) fun go60_ =>
 M.ite (decide (j57_.1 ≤ s58_.1))
 (M.guard (decide (0 ≤ s58_.1) && decide (s58_.1 < ((x.1.2.1 : Nat) : Int)))
 (M.deref x.1.1 fun a63_ =>
 M.load (.cell (.int .i64)) 1 (a63_.add ((Int.toNat s58_.1) * 1)) fun (x64_ : Int) =>
 M.guard (decide (0 ≤ x.2.1) && decide (x.2.1 < ((x.1.2.1 : Nat) : Int)))
 (M.deref x.1.1 fun a65_ =>
 M.load (.cell (.int .i64)) 1 (a65_.add ((Int.toNat x.2.1) * 1)) fun (x66_ : Int) =>
 M.callS (.one (.cell .bool)) (X (.call 152 [(.int .i64 x64_), (.int .i64 x66_)])) fun (r67_ : Bool) =>
 go60_ ((!r67_), ()))))
 (go60_ (false, ()))) (s46_.2.1, ())) <| M.sum (fun (j69_ : (Int) × Unit) =>
 M.ite (decide (j57_.1 > j69_.1))
 (M.pure (.inr (.inl (j69_.1, ()))))
 (M.guard (decide (0 ≤ j69_.1) && decide (j69_.1 < ((x.1.2.1 : Nat) : Int)))
 (M.deref x.1.1 fun a71_ =>
 M.load (.cell (.int .i64)) 1 (a71_.add ((Int.toNat j69_.1) * 1)) fun (x72_ : Int) =>
 M.guard (decide (0 ≤ j57_.1) && decide (j57_.1 < ((x.1.2.1 : Nat) : Int)))
 (M.deref x.1.1 fun a73_ =>
 M.load (.cell (.int .i64)) 1 (a73_.add ((Int.toNat j57_.1) * 1)) fun (x74_ : Int) =>
 M.guard (decide (0 ≤ j57_.1) && decide (j57_.1 < ((x.1.2.1 : Nat) : Int)))
 (M.deref x.1.1 fun a75_ =>
 M.store (a75_.add ((Int.toNat j57_.1) * 1)) [(.int .i64 x72_)]
 (M.guard (decide (0 ≤ j69_.1) && decide (j69_.1 < ((x.1.2.1 : Nat) : Int)))
 (M.deref x.1.1 fun a76_ =>
 M.store (a76_.add ((Int.toNat j69_.1) * 1)) [(.int .i64 x74_)]
 (M.pure (.inl ((IntKind.i64.wrap (j57_.1 + 1)), (IntKind.i64.wrap (j69_.1 - 1)), ())))))))))) (fun _ => M.stuck)) (fun _ => M.stuck)) ((IntKind.i64.wrap (j18_.1 + 1)), (IntKind.i64.wrap (j30_.1 - 1)), ())) <| M.sum (fun (j79_ : (Int) × Unit) =>
 M.guard (decide (0 ≤ x.2.1) && decide (x.2.1 < ((x.1.2.1 : Nat) : Int)))
 (M.deref x.1.1 fun a80_ =>
 M.load (.cell (.int .i64)) 1 (a80_.add ((Int.toNat x.2.1) * 1)) fun (x81_ : Int) =>
 M.guard (decide (0 ≤ j79_.1) && decide (j79_.1 < ((x.1.2.1 : Nat) : Int)))
 (M.deref x.1.1 fun a82_ =>
 M.load (.cell (.int .i64)) 1 (a82_.add ((Int.toNat j79_.1) * 1)) fun (x83_ : Int) =>
 M.guard (decide (0 ≤ j79_.1) && decide (j79_.1 < ((x.1.2.1 : Nat) : Int)))
 (M.deref x.1.1 fun a84_ =>
 M.store (a84_.add ((Int.toNat j79_.1) * 1)) [(.int .i64 x81_)]
 (M.guard (decide (0 ≤ x.2.1) && decide (x.2.1 < ((x.1.2.1 : Nat) : Int)))
 (M.deref x.1.1 fun a85_ =>
 M.store (a85_.add ((Int.toNat x.2.1) * 1)) [(.int .i64 x83_)]
 (M.pure (.tuple ⟨[(.int .i64 j79_.1), (.bool false)]⟩)))))))) (fun _ => M.stuck))))))))) (fun _ => M.stuck)) (fun _ => M.stuck)))))))

theorem e154 (X : Task → M Value) (L : LoopI) (x : ((Option Addr × Nat × Nat)) × (Int) × (Int) × (Int) × Unit) : evBody CC { call := X, loop := L } 154 (shsInj [(.cell .slice), (.cell (.int .i64)), (.cell (.int .i64)), (.cell (.int .i64))] x) = f154 X L x := by kernel_rfl

/-- math/bits.Len32 -/
def f155 (X : Task → M Value) (L : LoopI) (x : (Int) × Unit) : M Value :=
 M.join (fun (j0_ : (Int) × (Int) × Unit) =>
 M.join (fun (j2_ : (Int) × (Int) × Unit) =>
 let v4_ : Int := IntKind.u8.wrap j2_.1
 M.guard (decide (0 ≤ v4_) && decide (v4_ < (st1.size : Int)))
 (M.pure (.int .i64 (IntKind.i64.wrap (j2_.2.1 + (IntKind.i64.wrap (byteAt st1 v4_))))))) fun go3_ =>
 M.ite (decide (j0_.1 ≥ 256))
 (M.guard (decide (0 ≤ 8))
 (go3_ ((((j0_.1 : Int)).fdiv (2 ^ (min (Int.toNat 8) IntKind.u32.bits))), (IntKind.i64.wrap (j0_.2.1 + 8)), ())))
 (go3_ (j0_.1, j0_.2.1, ()))) fun go1_ =>
 M.ite (decide (x.1 ≥ 65536))
 (M.guard (decide (0 ≤ 16))
 (go1_ ((((x.1 : Int)).fdiv (2 ^ (min (Int.toNat 16) IntKind.u32.bits))), 16, ())))
 (go1_ (x.1, 0, ()))

theorem e155 (X : Task → M Value) (L : LoopI) (x : (Int) × Unit) : evBody CC { call := X, loop := L } 155 (shsInj [(.cell (.int .u32))] x) = f155 X L x := by kernel_rfl

/-- math/bits.Len64 -/
def f156 (X : Task → M Value) (L : LoopI) (x : (Int) × Unit) : M Value :=
 M.join (fun (j0_ : (Int) × (Int) × Unit) =>
 M.join (fun (j2_ : (Int) × (Int) × Unit) =>
 M.join (fun (j4_ : (Int) × (Int) × Unit) =>
 let v6_ : Int := IntKind.u8.wrap j4_.1
 M.guard (decide (0 ≤ v6_) && decide (v6_ < (st1.size : Int)))
 (M.pure (.int .i64 (IntKind.i64.wrap (j4_.2.1 + (IntKind.i64.wrap (byteAt st1 v6_))))))) fun go5_ =>
 M.ite (decide (j2_.1 ≥ 256))
 (M.guard (decide (0 ≤ 8))
 (go5_ ((((j2_.1 : Int)).fdiv (2 ^ (min (Int.toNat 8) IntKind.u64.bits))), (IntKind.i64.wrap (j2_.2.1 + 8)), ())))
 (go5_ (j2_.1, j2_.2.1, ()))) fun go3_ =>
 M.ite (decide (j0_.1 ≥ 65536))
 (M.guard (decide (0 ≤ 16))
 (go3_ ((((j0_.1 : Int)).fdiv (2 ^ (min (Int.toNat 16) IntKind.u64.bits))), (IntKind.i64.wrap (j0_.2.1 + 16)), ())))
 (go3_ (j0_.1, j0_.2.1, ()))) fun go1_ =>
 M.ite (decide (x.1 ≥ 4294967296))
 (M.guard (decide (0 ≤ 32))
 (go1_ ((((x.1 : Int)).fdiv (2 ^ (min (Int.toNat 32) IntKind.u64.bits))), 32, ())))
 (go1_ (x.1, 0, ()))

theorem e156 (X : Task → M Value) (L : LoopI) (x : (Int) × Unit) : evBody CC { call := X, loop := L } 156 (shsInj [(.cell (.int .u64))] x) = f156 X L x := by kernel_rfl

/-- hayrick/field.Add -/
def f157 (X : Task → M Value) (L : LoopI) (x : (Int) × (Int) × Unit) : M Value :=
 M.pure (.int .u8 (bitsV .xor .u8 x.1 x.2.1))

theorem e157 (X : Task → M Value) (L : LoopI) (x : (Int) × (Int) × Unit) : evBody CC { call := X, loop := L } 157 (shsInj [(.cell (.int .u8)), (.cell (.int .u8))] x) = f157 X L x := by kernel_rfl

/-- hayrick/field.Mul -/
def f158 (X : Task → M Value) (L : LoopI) (x : (Int) × (Int) × Unit) : M Value :=
 M.bind (L (σ := (Int) × (Int) × (Int) × Unit) (ρ := ((Int) × Unit) ⊕ (Unit)) (fun s0_ =>
 M.ite (decide (s0_.2.1 > 0))
 (M.join (fun (j2_ : (Int) × Unit) =>
 M.callS (.one (.cell (.int .u8))) (X (.call 174 [(.int .u8 s0_.1)])) fun (r4_ : Int) =>
 M.guard (decide (0 ≤ 1))
 (M.pure (.inl (r4_, (((s0_.2.1 : Int)).fdiv (2 ^ (min (Int.toNat 1) IntKind.u8.bits))), j2_.1, ())))) fun go3_ =>
 M.ite ((bitsV .and .u8 s0_.2.1 1) == 1)
 (go3_ ((bitsV .xor .u8 s0_.2.2.1 s0_.1), ()))
 (go3_ (s0_.2.2.1, ())))
 (M.pure (.inr (.inl (s0_.2.2.1, ()))))) (x.1, x.2.1, 0, ())) <| M.sum (fun (j9_ : (Int) × Unit) =>
 M.pure (.int .u8 j9_.1)) (fun _ => M.stuck)

theorem e158 (X : Task → M Value) (L : LoopI) (x : (Int) × (Int) × Unit) : evBody CC { call := X, loop := L } 158 (shsInj [(.cell (.int .u8)), (.cell (.int .u8))] x) = f158 X L x := by kernel_rfl

/-- hayrick/field.Inv -/
def f159 (X : Task → M Value) (L : LoopI) (x : (Int) × Unit) : M Value :=
 M.callS (.tuple [(.cell (.int .i64)), (.cell (.int .i64))]) (X (.call 175 [(.int .u8 x.1)])) fun (r0_ : (Int) × (Int) × Unit) =>
 M.ite (!(r0_.2.1 == 0))
 (M.pure (.tuple ⟨[(.int .u8 0), (.int .i64 r0_.2.1)]⟩))
 (M.callS (.one (.cell (.int .u8))) (X (.call 176 [(.int .i64 (IntKind.i64.wrap (0 - r0_.1)))])) fun (r3_ : Int) =>
 M.pure (.tuple ⟨[(.int .u8 r3_), (.int .i64 0)]⟩))

theorem e159 (X : Task → M Value) (L : LoopI) (x : (Int) × Unit) : evBody CC { call := X, loop := L } 159 (shsInj [(.cell (.int .u8))] x) = f159 X L x := by kernel_rfl

/-- hayrick/stamp.Put -/
def f160 (X : Task → M Value) (L : LoopI) (x : (Int) × ((Option Addr × Nat × Nat)) × Unit) : M Value :=
 M.ite (decide (((x.2.1.2.1 : Nat) : Int) > 56))
 (M.pure (.tuple ⟨[(.slice none 0 0), (.int .i64 3)]⟩))
 (M.new (.cells (zc 182) 182 false (0, 0) false) fun b2_ =>
 M.bind (L (σ := (Int) × Unit) (ρ := (Unit) ⊕ (Unit)) (fun s3_ =>
 M.ite (decide (s3_.1 < 8))
 (let v6_ : Int := IntKind.i64.wrap (8 * (IntKind.i64.wrap (7 - s3_.1)))
 M.guard (decide (0 ≤ v6_))
 (M.guard (decide (0 ≤ s3_.1) && decide (s3_.1 < ((64 : Nat) : Int)))
 (M.store ((Addr.mk b2_ 0 none).add ((Int.toNat s3_.1) * 1)) [(.int .u8 (IntKind.u8.wrap (((x.1 : Int)).fdiv (2 ^ (min (Int.toNat v6_) IntKind.u64.bits)))))]
 (M.pure (.inl ((IntKind.i64.wrap (s3_.1 + 1)), ()))))))
 (M.pure (.inr (.inl (()))))) (0, ())) <| M.sum (fun (j10_ : Unit) =>
 M.guard (decide (0 ≤ 8) && decide (8 ≤ ((64 : Nat) : Int)))
 (let v11_ : Nat := (Int.toNat 8)
 M.copy 1 (some ((Addr.mk b2_ 0 none).add (v11_ * 1))) (64 - v11_) (.slice x.2.1.1 x.2.1.2.1 x.2.1.2.2) fun m12_ =>
 M.pure (.tuple ⟨[(.slice (some ((Addr.mk b2_ 0 none).add (0 * 1))) (64 - 0) (64 - 0)), (.int .i64 0)]⟩))) (fun _ => M.stuck))

theorem e160 (X : Task → M Value) (L : LoopI) (x : (Int) × ((Option Addr × Nat × Nat)) × Unit) : evBody CC { call := X, loop := L } 160 (shsInj [(.cell (.int .u64)), (.cell .slice)] x) = f160 X L x := by kernel_rfl

/-- (*hayrick/array.Array).ready -/
def f161 (X : Task → M Value) (L : LoopI) (x : (Option Addr) × (Int) × (Int) × Unit) : M Value :=
 M.join (fun (j0_ : (Bool) × Unit) =>
 M.ite j0_.1
 (M.pure (.int .i64 2))
 (M.deref x.1 fun a2_ =>
 M.load (.cell .bool) 1 (a2_.add 4) fun (x3_ : Bool) =>
 M.ite x3_
 (M.pure (.int .i64 8))
 (M.join (fun (j4_ : (Bool) × Unit) =>
 M.ite j4_.1
 (M.pure (.int .i64 6))
 (M.callS (.one (.cell .bool)) (X (.call 124 [(.pointer x.1), (.int .i64 x.2.1)])) fun (r6_ : Bool) =>
 M.ite (!r6_)
 (M.pure (.int .i64 9))
 (M.pure (.int .i64 0)))) fun go5_ =>
 M.ite (decide (x.2.1 < 0))
 (go5_ (true, ()))
 (M.deref x.1 fun a9_ =>
 M.load (.cell .slice) 1 (a9_.add 1) fun (x10_ : (Option Addr × Nat × Nat)) =>
 M.ite (decide (x.2.1 ≥ ((x10_.2.1 : Nat) : Int)))
 (go5_ (true, ()))
 (M.ite (decide (x.2.2.1 < 0))
 (go5_ (true, ()))
 (M.deref x.1 fun a14_ =>
 M.load (.cell (.int .i64)) 1 (a14_.add 0) fun (x15_ : Int) =>
 go5_ ((decide (x.2.2.1 ≥ x15_)), ()))))))) fun go1_ =>
 M.eqPtr x.1 none fun (q17_ : Bool) =>
 M.ite q17_
 (go1_ (true, ()))
 (M.deref x.1 fun a18_ =>
 M.load (.cell (.int .i64)) 1 (a18_.add 0) fun (x19_ : Int) =>
 go1_ ((x19_ == 0), ()))

theorem e161 (X : Task → M Value) (L : LoopI) (x : (Option Addr) × (Int) × (Int) × Unit) : evBody CC { call := X, loop := L } 161 (shsInj [(.cell .ptr), (.cell (.int .i64)), (.cell (.int .i64))] x) = f161 X L x := by kernel_rfl

/-- (*hayrick/array.Array).Read -/
def f162 (X : Task → M Value) (L : LoopI) (x : (Option Addr) × (Int) × (Int) × Unit) : M Value :=
 M.callS (.one (.cell (.int .i64))) (X (.call 161 [(.pointer x.1), (.int .i64 x.2.1), (.int .i64 x.2.2.1)])) fun (r0_ : Int) =>
 M.ite (!(r0_ == 0))
 (M.pure (.tuple ⟨[(.slice none 0 0), (.int .i64 r0_)]⟩))
 (M.deref x.1 fun a2_ =>
 M.load (.cell .slice) 1 (a2_.add 1) fun (x3_ : (Option Addr × Nat × Nat)) =>
 M.guard (decide (0 ≤ x.2.1) && decide (x.2.1 < ((x3_.2.1 : Nat) : Int)))
 (M.deref x3_.1 fun a4_ =>
 M.load (.cell .slice) 1 (a4_.add ((Int.toNat x.2.1) * 1)) fun (x5_ : (Option Addr × Nat × Nat)) =>
 M.guard (decide (0 ≤ x.2.2.1) && decide (x.2.2.1 < ((x5_.2.1 : Nat) : Int)))
 (M.deref x5_.1 fun a6_ =>
 M.load .raw 64 (a6_.add ((Int.toNat x.2.2.1) * 64)) fun (x7_ : List Value) =>
 M.new (.cells (zc 183) 183 false (0, 0) false) fun b8_ =>
 cond (Nat.beq x7_.length 64) (M.store (Addr.mk b8_ 0 none) x7_
 (M.deref x.1 fun a9_ =>
 M.load (.cell .slice) 1 (a9_.add 2) fun (x10_ : (Option Addr × Nat × Nat)) =>
 M.bind (L (σ := (Int) × Unit) (ρ := (Unit) ⊕ (Unit)) (fun s12_ =>
 M.ite (decide (s12_.1 < ((x10_.2.1 : Nat) : Int)))
 (M.join (fun (j14_ : Unit) =>
 M.pure (.inl ((IntKind.i64.wrap (s12_.1 + 1)), ()))) fun go15_ =>
 M.guard (decide (0 ≤ s12_.1) && decide (s12_.1 < ((x10_.2.1 : Nat) : Int)))
 (M.deref x10_.1 fun a17_ =>
 M.load .raw 66 (a17_.add ((Int.toNat s12_.1) * 66)) fun (x18_ : List Value) =>
 M.new (.cells (zc 185) 185 false (0, 0) false) fun b19_ =>
 cond (Nat.beq x18_.length 66) (M.store (Addr.mk b19_ 0 none) x18_
 (M.join (fun (j20_ : (Bool) × Unit) =>
 M.ite j20_.1
 (M.load .raw 64 ((Addr.mk b19_ 0 none).add 2) fun (x22_ : List Value) =>
 cond (Nat.beq x22_.length 64) (M.store (Addr.mk b8_ 0 none) x22_
 (go15_ (()))) M.stuck)
 (go15_ (()))) fun go21_ =>
 M.load (.cell (.int .i64)) 1 ((Addr.mk b19_ 0 none).add 0) fun (x23_ : Int) =>
 M.ite (x23_ == x.2.1)
 (M.load (.cell (.int .i64)) 1 ((Addr.mk b19_ 0 none).add 1) fun (x25_ : Int) =>
 go21_ ((x25_ == x.2.2.1), ()))
 (go21_ (false, ())))) M.stuck))
 (M.pure (.inr (.inl (()))))) (0, ())) <| M.sum (fun (j27_ : Unit) =>
 M.pure (.tuple ⟨[(.slice (some ((Addr.mk b8_ 0 none).add (0 * 1))) (64 - 0) (64 - 0)), (.int .i64 0)]⟩)) (fun _ => M.stuck))) M.stuck)))

theorem e162 (X : Task → M Value) (L : LoopI) (x : (Option Addr) × (Int) × (Int) × Unit) : evBody CC { call := X, loop := L } 162 (shsInj [(.cell .ptr), (.cell (.int .i64)), (.cell (.int .i64))] x) = f162 X L x := by kernel_rfl

/-- slices.IndexFunc[[][]byte,[]byte] -/
def f163 (X : Task → M Value) (L : LoopI) (x : ((Option Addr × Nat × Nat)) × (Value) × Unit) : M Value :=
 M.bind (L (σ := (Int) × Unit) (ρ := (Unit) ⊕ (((Int) × Unit) ⊕ (Unit))) (fun s1_ =>
 M.ite (decide (s1_.1 < ((x.1.2.1 : Nat) : Int)))
 (M.guard (decide (0 ≤ s1_.1) && decide (s1_.1 < ((x.1.2.1 : Nat) : Int)))
 (M.deref x.1.1 fun a3_ =>
 M.load (.cell .slice) 1 (a3_.add ((Int.toNat s1_.1) * 1)) fun (x4_ : (Option Addr × Nat × Nat)) =>
 callV CC ⟨X, L⟩ x.2.1 [(.slice x4_.1 x4_.2.1 x4_.2.2)] fun w6_ => M.need (RSh.prj (.one (.cell .bool)) w6_) fun (r5_ : Bool) =>
 M.ite r5_
 (M.pure (.inr (.inr (.inl (s1_.1, ())))))
 (M.pure (.inl ((IntKind.i64.wrap (s1_.1 + 1)), ())))))
 (M.pure (.inr (.inl (()))))) (0, ())) <| M.sum (fun (j8_ : Unit) =>
 M.pure (.int .i64 (-1))) (M.sum (fun (j9_ : (Int) × Unit) =>
 M.pure (.int .i64 j9_.1)) (fun _ => M.stuck))

theorem e163 (X : Task → M Value) (L : LoopI) (x : ((Option Addr × Nat × Nat)) × (Value) × Unit) : evBody CC { call := X, loop := L } 163 (shsInj [(.cell .slice), (.cell .val)] x) = f163 X L x := by kernel_rfl

/-- hayrick/matrix.May -/
def f164 (X : Task → M Value) (L : LoopI) (x : ((Option Addr × Nat × Nat)) × Unit) : M Value :=
 M.join (fun (j0_ : (Bool) × Unit) =>
 M.ite j0_.1
 (M.pure (.bool false))
 (M.bind (L (σ := (Int) × Unit) (ρ := (Unit) ⊕ (((Bool) × Unit) ⊕ (Unit))) (fun s3_ =>
 M.ite (decide (s3_.1 < ((x.1.2.1 : Nat) : Int)))
 (M.guard (decide (0 ≤ s3_.1) && decide (s3_.1 < ((x.1.2.1 : Nat) : Int)))
 (M.deref x.1.1 fun a5_ =>
 M.load (.cell .slice) 1 (a5_.add ((Int.toNat s3_.1) * 1)) fun (x6_ : (Option Addr × Nat × Nat)) =>
 M.guard (decide (0 ≤ 0) && decide (0 < ((x.1.2.1 : Nat) : Int)))
 (M.deref x.1.1 fun a8_ =>
 M.load (.cell .slice) 1 (a8_.add ((Int.toNat 0) * 1)) fun (x9_ : (Option Addr × Nat × Nat)) =>
 M.ite (!(((x6_.2.1 : Nat) : Int) == ((x9_.2.1 : Nat) : Int)))
 (M.pure (.inr (.inr (.inl (false, ())))))
 (M.pure (.inl ((IntKind.i64.wrap (s3_.1 + 1)), ()))))))
 (M.pure (.inr (.inl (()))))) (0, ())) <| M.sum (fun (j13_ : Unit) =>
 M.pure (.bool true)) (M.sum (fun (j14_ : (Bool) × Unit) =>
 M.pure (.bool j14_.1)) (fun _ => M.stuck)))) fun go1_ =>
 M.ite (decide (((x.1.2.1 : Nat) : Int) < 1))
 (go1_ (true, ()))
 (M.ite (decide (((x.1.2.1 : Nat) : Int) > 255))
 (go1_ (true, ()))
 (M.guard (decide (0 ≤ 0) && decide (0 < ((x.1.2.1 : Nat) : Int)))
 (M.deref x.1.1 fun a19_ =>
 M.load (.cell .slice) 1 (a19_.add ((Int.toNat 0) * 1)) fun (x20_ : (Option Addr × Nat × Nat)) =>
 M.ite (decide (((x20_.2.1 : Nat) : Int) < 1))
 (go1_ (true, ()))
 (M.guard (decide (0 ≤ 0) && decide (0 < ((x.1.2.1 : Nat) : Int)))
 (M.deref x.1.1 fun a23_ =>
 M.load (.cell .slice) 1 (a23_.add ((Int.toNat 0) * 1)) fun (x24_ : (Option Addr × Nat × Nat)) =>
 go1_ ((decide (((x24_.2.1 : Nat) : Int) > 255)), ()))))))

theorem e164 (X : Task → M Value) (L : LoopI) (x : ((Option Addr × Nat × Nat)) × Unit) : evBody CC { call := X, loop := L } 164 (shsInj [(.cell .slice)] x) = f164 X L x := by kernel_rfl

/-- hayrick/matrix.Identity -/
def f166 (X : Task → M Value) (L : LoopI) (x : (Int) × Unit) : M Value :=
 M.join (fun (j0_ : (Bool) × Unit) =>
 M.ite j0_.1
 (M.pure (.tuple ⟨[(.slice none 0 0), (.int .i64 1)]⟩))
 (M.callS (.one (.cell .slice)) (X (.call 177 [(.int .i64 x.1), (.int .i64 x.1)])) fun (r2_ : (Option Addr × Nat × Nat)) =>
 M.bind (L (σ := (Int) × Unit) (ρ := (Unit) ⊕ (Unit)) (fun s4_ =>
 M.ite (decide (s4_.1 < ((r2_.2.1 : Nat) : Int)))
 (M.guard (decide (0 ≤ s4_.1) && decide (s4_.1 < ((r2_.2.1 : Nat) : Int)))
 (M.deref r2_.1 fun a6_ =>
 M.load (.cell .slice) 1 (a6_.add ((Int.toNat s4_.1) * 1)) fun (x7_ : (Option Addr × Nat × Nat)) =>
 M.guard (decide (0 ≤ s4_.1) && decide (s4_.1 < ((x7_.2.1 : Nat) : Int)))
 (M.deref x7_.1 fun a8_ =>
 M.store (a8_.add ((Int.toNat s4_.1) * 1)) [(.int .u8 1)]
 (M.pure (.inl ((IntKind.i64.wrap (s4_.1 + 1)), ()))))))
 (M.pure (.inr (.inl (()))))) (0, ())) <| M.sum (fun (j10_ : Unit) =>
 M.pure (.tuple ⟨[(.slice r2_.1 r2_.2.1 r2_.2.2), (.int .i64 0)]⟩)) (fun _ => M.stuck))) fun go1_ =>
 M.ite (decide (x.1 < 1))
 (go1_ (true, ()))
 (go1_ ((decide (x.1 > 255)), ()))

theorem e166 (X : Task → M Value) (L : LoopI) (x : (Int) × Unit) : evBody CC { call := X, loop := L } 166 (shsInj [(.cell (.int .i64))] x) = f166 X L x := by kernel_rfl

end
end Go.Proofs.YtcfnndmehnppnaaGreat.storeKnown
