/-
  What the functions that FilesKnown reaches come to, part 0: each text, and that the reading gives it.
-/
import Derived.Test.YtcfnndmehnppnaaGreatFilesKnownH
import Derived.KernelRfl
set_option linter.unusedVariables false
namespace Go.Proofs.YtcfnndmehnppnaaGreat.filesKnown
open Go Go.Eng
noncomputable section
/-- hayrick/hayricklaw19.FilesKnown -/
def f5c0 (X : Task → M Value) (L : LoopI) (r0_ : (Option Addr) × (Option Addr) × (Option Addr) × (Option Addr) × Unit) (r27_ : (Int) × (Int) × Unit) (go29_ : ((Bool) × Unit) → M (Value)) (x52_ : Int × Int × Int × Int × Int × Int × Int × Int × Int × Int × Int × Unit) : M (Value) :=
 M.callS (.one (.cell (.int .i64))) (X (.call 38 [(.pointer none), (.agg ⟨[(.int .i64 x52_.1), (.int .i64 x52_.2.1), (.int .i64 x52_.2.2.1), (.int .i64 x52_.2.2.2.1), (.int .u32 x52_.2.2.2.2.1), (.int .u32 x52_.2.2.2.2.2.1), (.int .u32 x52_.2.2.2.2.2.2.1), (.int .u32 x52_.2.2.2.2.2.2.2.1), (.int .u32 x52_.2.2.2.2.2.2.2.2.1), (.int .u32 x52_.2.2.2.2.2.2.2.2.2.1), (.int .u32 x52_.2.2.2.2.2.2.2.2.2.2.1)]⟩), (.slice none 0 0), (.bool true)])) fun (r53_ : Int) =>
 M.ite (r53_ == 2)
 (M.callS (.one (.cell (.int .i64))) (X (.call 42 [(.pointer none), (.int .i64 1), (.bool true)])) fun (r55_ : Int) =>
 M.ite (r55_ == 2)
 (M.callS (.one (.cell (.int .i64))) (X (.call 41 [(.pointer r0_.1), (.int .i64 3), (.int .i64 0), (.slice none 0 0), (.bool true)])) fun (r57_ : Int) =>
 M.ite (r57_ == 6)
 (go29_ ((decide (r27_.1 > 0)), ()))
 (go29_ (false, ())))
 (go29_ (false, ())))
 (go29_ (false, ()))
def f5c1 (X : Task → M Value) (L : LoopI) (r0_ : (Option Addr) × (Option Addr) × (Option Addr) × (Option Addr) × Unit) (r15_ : ((Option Addr × Nat × Nat)) × (Int) × Unit) (r16_ : ((Option Addr × Nat × Nat)) × (Int) × Unit) (b17_ : Nat) (r22_ : Int) (r24_ : Int) (r25_ : ((Option Addr × Nat × Nat)) × (Int) × Unit) (r27_ : (Int) × (Int) × Unit) (go29_ : ((Bool) × Unit) → M (Value)) : M (Value) :=
 M.ite (r15_.2.1 == 1)
 (M.ite (r16_.2.1 == 6)
 (M.ite (r22_ == 1)
 (M.ite (r24_ == 0)
 (M.ite (r25_.2.1 == 2)
 (M.load (.agg [(.int .i64), (.int .i64), (.int .i64), (.int .i64), (.int .u32), (.int .u32), (.int .u32), (.int .u32), (.int .u32), (.int .u32), (.int .u32)]) 11 (Addr.mk b17_ 0 none) fun (x52_ : Int × Int × Int × Int × Int × Int × Int × Int × Int × Int × Int × Unit) =>
 f5c0 X L r0_ r27_ go29_ x52_)
 (go29_ (false, ())))
 (go29_ (false, ())))
 (go29_ (false, ())))
 (go29_ (false, ())))
 (go29_ (false, ()))
def f5c2 (X : Task → M Value) (L : LoopI) (r0_ : (Option Addr) × (Option Addr) × (Option Addr) × (Option Addr) × Unit) (r10_ : Int) (r12_ : Int) (r13_ : Int) (r14_ : ((Option Addr × Nat × Nat)) × (Int) × Unit) (r15_ : ((Option Addr × Nat × Nat)) × (Int) × Unit) (r16_ : ((Option Addr × Nat × Nat)) × (Int) × Unit) (b17_ : Nat) (r22_ : Int) (r24_ : Int) (r25_ : ((Option Addr × Nat × Nat)) × (Int) × Unit) (r27_ : (Int) × (Int) × Unit) (go29_ : ((Bool) × Unit) → M (Value)) (v37_ : Bool) : M (Value) :=
 M.ite v37_
 (M.ite (r10_ == 39)
 (M.ite (r12_ == 0)
 (M.ite (r13_ == 1)
 (M.ite (r14_.2.1 == 0)
 (M.ite (((r14_.1.2.1 : Nat) : Int) == 8)
 (M.guard (decide (0 ≤ 7) && decide (7 < ((r14_.1.2.1 : Nat) : Int)))
 (M.deref r14_.1.1 fun a44_ =>
 M.load (.cell (.int .u8)) 1 (a44_.add ((Int.toNat 7) * 1)) fun (x45_ : Int) =>
 M.ite (x45_ == 7)
 (f5c1 X L r0_ r15_ r16_ b17_ r22_ r24_ r25_ r27_ go29_)
 (go29_ (false, ()))))
 (go29_ (false, ())))
 (go29_ (false, ())))
 (go29_ (false, ())))
 (go29_ (false, ())))
 (go29_ (false, ())))
 (go29_ (false, ()))
def f5c3 (X : Task → M Value) (L : LoopI) (r0_ : (Option Addr) × (Option Addr) × (Option Addr) × (Option Addr) × Unit) (r3_ : Int) (r4_ : Int) (r5_ : ((Option Addr × Nat × Nat)) × (Int) × Unit) (r7_ : Int) (r8_ : Int) (r9_ : Int) (r10_ : Int) (r12_ : Int) (r13_ : Int) (r14_ : ((Option Addr × Nat × Nat)) × (Int) × Unit) (r15_ : ((Option Addr × Nat × Nat)) × (Int) × Unit) (r16_ : ((Option Addr × Nat × Nat)) × (Int) × Unit) (b17_ : Nat) (r22_ : Int) (r24_ : Int) (r25_ : ((Option Addr × Nat × Nat)) × (Int) × Unit) (r26_ : (Option Addr × Nat × Nat)) : M (Value) :=
 M.callS (.tuple [(.cell (.int .u32)), (.cell (.int .i64))]) (X (.call 16 [(.pointer r0_.1), (.int .i64 1), (.int .i64 0), (.slice r26_.1 r26_.2.1 r26_.2.2), (.bool true)])) fun (r27_ : (Int) × (Int) × Unit) =>
 M.join (fun (j28_ : (Bool) × Unit) =>
 M.pure (.bool j28_.1)) fun go29_ =>
 M.ite (r3_ == 0)
 (M.ite (r4_ == 0)
 (M.ite (r5_.2.1 == 0)
 (M.toStr r5_.1.1 r5_.1.2.1 fun s33_ =>
 M.ite (seq s33_ st0)
 (M.ite (r7_ == 39)
 (M.ite (r8_ == 0)
 (f5c2 X L r0_ r10_ r12_ r13_ r14_ r15_ r16_ b17_ r22_ r24_ r25_ r27_ go29_ (r9_ == 1))
 (go29_ (false, ())))
 (go29_ (false, ())))
 (go29_ (false, ())))
 (go29_ (false, ())))
 (go29_ (false, ())))
 (go29_ (false, ()))
def f5c4 (X : Task → M Value) (L : LoopI) (r0_ : (Option Addr) × (Option Addr) × (Option Addr) × (Option Addr) × Unit) (r3_ : Int) (r4_ : Int) (r5_ : ((Option Addr × Nat × Nat)) × (Int) × Unit) (r7_ : Int) (r8_ : Int) (r9_ : Int) (r10_ : Int) (r12_ : Int) (r13_ : Int) (r14_ : ((Option Addr × Nat × Nat)) × (Int) × Unit) (r15_ : ((Option Addr × Nat × Nat)) × (Int) × Unit) (r16_ : ((Option Addr × Nat × Nat)) × (Int) × Unit) (b17_ : Nat) (x20_ : Int × Int × Int × Int × Int × Int × Int × Int × Int × Int × Int × Unit) (b21_ : Nat) (r22_ : Int) : M (Value) :=
 M.load (.agg [(.int .i64), (.int .i64), (.int .i64), (.int .i64), (.int .u32), (.int .u32), (.int .u32), (.int .u32), (.int .u32), (.int .u32), (.int .u32)]) 11 (Addr.mk b17_ 0 none) fun (x23_ : Int × Int × Int × Int × Int × Int × Int × Int × Int × Int × Int × Unit) => cond (veqv (.agg ⟨[(.int .i64 x23_.1), (.int .i64 x23_.2.1), (.int .i64 x23_.2.2.1), (.int .i64 x23_.2.2.2.1), (.int .u32 x23_.2.2.2.2.1), (.int .u32 x23_.2.2.2.2.2.1), (.int .u32 x23_.2.2.2.2.2.2.1), (.int .u32 x23_.2.2.2.2.2.2.2.1), (.int .u32 x23_.2.2.2.2.2.2.2.2.1), (.int .u32 x23_.2.2.2.2.2.2.2.2.2.1), (.int .u32 x23_.2.2.2.2.2.2.2.2.2.2.1)]⟩) (.agg ⟨[(.int .i64 x20_.1), (.int .i64 x20_.2.1), (.int .i64 x20_.2.2.1), (.int .i64 x20_.2.2.2.1), (.int .u32 x20_.2.2.2.2.1), (.int .u32 x20_.2.2.2.2.2.1), (.int .u32 x20_.2.2.2.2.2.2.1), (.int .u32 x20_.2.2.2.2.2.2.2.1), (.int .u32 x20_.2.2.2.2.2.2.2.2.1), (.int .u32 x20_.2.2.2.2.2.2.2.2.2.1), (.int .u32 x20_.2.2.2.2.2.2.2.2.2.2.1)]⟩)) (M.callS (.one (.cell (.int .i64))) (X (.call 38 [(.pointer r0_.1), (.agg ⟨[(.int .i64 x20_.1), (.int .i64 x20_.2.1), (.int .i64 x20_.2.2.1), (.int .i64 x20_.2.2.2.1), (.int .u32 x20_.2.2.2.2.1), (.int .u32 x20_.2.2.2.2.2.1), (.int .u32 x20_.2.2.2.2.2.2.1), (.int .u32 x20_.2.2.2.2.2.2.2.1), (.int .u32 x20_.2.2.2.2.2.2.2.2.1), (.int .u32 x20_.2.2.2.2.2.2.2.2.2.1), (.int .u32 x20_.2.2.2.2.2.2.2.2.2.2.1)]⟩), (.slice (some (Addr.mk b21_ 0 none)) (Int.toNat 28) (Int.toNat 28)), (.bool true)])) fun (r24_ : Int) =>
 M.callS (.tuple [(.cell .slice), (.cell (.int .i64))]) (X (.call 40 [(.pointer none), (.int .i64 1), (.int .i64 0), (.int .i64 0)])) fun (r25_ : ((Option Addr × Nat × Nat)) × (Int) × Unit) =>
 M.callS (.one (.cell .slice)) (X (.call 22 [(.int .u8 9)])) fun (r26_ : (Option Addr × Nat × Nat)) =>
 f5c3 X L r0_ r3_ r4_ r5_ r7_ r8_ r9_ r10_ r12_ r13_ r14_ r15_ r16_ b17_ r22_ r24_ r25_ r26_) M.stuck
def f5c5 (X : Task → M Value) (L : LoopI) (r0_ : (Option Addr) × (Option Addr) × (Option Addr) × (Option Addr) × Unit) (r3_ : Int) (r4_ : Int) (r5_ : ((Option Addr × Nat × Nat)) × (Int) × Unit) (r7_ : Int) (r8_ : Int) (r9_ : Int) (r10_ : Int) (r12_ : Int) (r13_ : Int) (r14_ : ((Option Addr × Nat × Nat)) × (Int) × Unit) (r15_ : ((Option Addr × Nat × Nat)) × (Int) × Unit) (r16_ : ((Option Addr × Nat × Nat)) × (Int) × Unit) (b17_ : Nat) (x18_ : Int × Int × Int × Int × Int × Int × Int × Int × Int × Int × Int × Unit) (b19_ : Nat) (x20_ : Int × Int × Int × Int × Int × Int × Int × Int × Int × Int × Int × Unit) (b21_ : Nat) : M (Value) :=
 M.callS (.one (.cell (.int .i64))) (X (.call 38 [(.pointer r0_.1), (.agg ⟨[(.int .i64 x18_.1), (.int .i64 x18_.2.1), (.int .i64 x18_.2.2.1), (.int .i64 x18_.2.2.2.1), (.int .u32 x18_.2.2.2.2.1), (.int .u32 x18_.2.2.2.2.2.1), (.int .u32 x18_.2.2.2.2.2.2.1), (.int .u32 x18_.2.2.2.2.2.2.2.1), (.int .u32 x18_.2.2.2.2.2.2.2.2.1), (.int .u32 x18_.2.2.2.2.2.2.2.2.2.1), (.int .u32 x18_.2.2.2.2.2.2.2.2.2.2.1)]⟩), (.slice (some (Addr.mk b19_ 0 none)) (Int.toNat 27) (Int.toNat 27)), (.bool true)])) fun (r22_ : Int) =>
 f5c4 X L r0_ r3_ r4_ r5_ r7_ r8_ r9_ r10_ r12_ r13_ r14_ r15_ r16_ b17_ x20_ b21_ r22_
def f5c6 (X : Task → M Value) (L : LoopI) (r0_ : (Option Addr) × (Option Addr) × (Option Addr) × (Option Addr) × Unit) (r3_ : Int) (r4_ : Int) (r5_ : ((Option Addr × Nat × Nat)) × (Int) × Unit) (r7_ : Int) (r8_ : Int) (r9_ : Int) (r10_ : Int) (r12_ : Int) (r13_ : Int) (r14_ : ((Option Addr × Nat × Nat)) × (Int) × Unit) (r15_ : ((Option Addr × Nat × Nat)) × (Int) × Unit) (r16_ : ((Option Addr × Nat × Nat)) × (Int) × Unit) (b17_ : Nat) (x18_ : Int × Int × Int × Int × Int × Int × Int × Int × Int × Int × Int × Unit) (b19_ : Nat) : M (Value) :=
 M.load (.agg [(.int .i64), (.int .i64), (.int .i64), (.int .i64), (.int .u32), (.int .u32), (.int .u32), (.int .u32), (.int .u32), (.int .u32), (.int .u32)]) 11 (Addr.mk b17_ 0 none) fun (x20_ : Int × Int × Int × Int × Int × Int × Int × Int × Int × Int × Int × Unit) =>
 M.guard (decide (0 ≤ 28) && decide (28 ≤ 28) && decide ((1 : Int) * 28 ≤ 2 ^ 48))
 (M.new (.cells (Row.rep [(.int .u8 0)] (Int.toNat 28)) 5 false (0, 0) false) fun b21_ =>
 f5c5 X L r0_ r3_ r4_ r5_ r7_ r8_ r9_ r10_ r12_ r13_ r14_ r15_ r16_ b17_ x18_ b19_ x20_ b21_)
def f5c7 (X : Task → M Value) (L : LoopI) (r0_ : (Option Addr) × (Option Addr) × (Option Addr) × (Option Addr) × Unit) (r3_ : Int) (r4_ : Int) (r5_ : ((Option Addr × Nat × Nat)) × (Int) × Unit) (r7_ : Int) (r8_ : Int) (r9_ : Int) (r10_ : Int) (r12_ : Int) (r13_ : Int) (r14_ : ((Option Addr × Nat × Nat)) × (Int) × Unit) (r15_ : ((Option Addr × Nat × Nat)) × (Int) × Unit) (r16_ : ((Option Addr × Nat × Nat)) × (Int) × Unit) (b17_ : Nat) : M (Value) :=
 M.load (.agg [(.int .i64), (.int .i64), (.int .i64), (.int .i64), (.int .u32), (.int .u32), (.int .u32), (.int .u32), (.int .u32), (.int .u32), (.int .u32)]) 11 (Addr.mk b17_ 0 none) fun (x18_ : Int × Int × Int × Int × Int × Int × Int × Int × Int × Int × Int × Unit) =>
 M.guard (decide (0 ≤ 27) && decide (27 ≤ 27) && decide ((1 : Int) * 27 ≤ 2 ^ 48))
 (M.new (.cells (Row.rep [(.int .u8 0)] (Int.toNat 27)) 5 false (0, 0) false) fun b19_ =>
 f5c6 X L r0_ r3_ r4_ r5_ r7_ r8_ r9_ r10_ r12_ r13_ r14_ r15_ r16_ b17_ x18_ b19_)
def f5c8 (X : Task → M Value) (L : LoopI) (r0_ : (Option Addr) × (Option Addr) × (Option Addr) × (Option Addr) × Unit) (r3_ : Int) (r4_ : Int) (r5_ : ((Option Addr × Nat × Nat)) × (Int) × Unit) (r7_ : Int) (r8_ : Int) (r9_ : Int) (r10_ : Int) (r12_ : Int) (r13_ : Int) (r14_ : ((Option Addr × Nat × Nat)) × (Int) × Unit) (r15_ : ((Option Addr × Nat × Nat)) × (Int) × Unit) : M (Value) :=
 M.callS (.tuple [(.cell .slice), (.cell (.int .i64))]) (X (.call 40 [(.pointer r0_.1), (.int .i64 2), (.int .i64 0), (.int .i64 0)])) fun (r16_ : ((Option Addr × Nat × Nat)) × (Int) × Unit) =>
 M.new (.cells (Row.ofList [(.int .i64 0), (.int .i64 0), (.int .i64 0), (.int .i64 0), (.int .u32 0), (.int .u32 0), (.int .u32 0), (.int .u32 0), (.int .u32 0), (.int .u32 0), (.int .u32 0)]) 34 false (0, 0) false) fun b17_ =>
 M.store (Addr.mk b17_ 0 none) [(.int .i64 2), (.int .i64 2), (.int .i64 0), (.int .i64 1), (.int .u32 0), (.int .u32 0), (.int .u32 0), (.int .u32 0), (.int .u32 0), (.int .u32 0), (.int .u32 0)]
 (f5c7 X L r0_ r3_ r4_ r5_ r7_ r8_ r9_ r10_ r12_ r13_ r14_ r15_ r16_ b17_)
def f5c9 (X : Task → M Value) (L : LoopI) (r0_ : (Option Addr) × (Option Addr) × (Option Addr) × (Option Addr) × Unit) (r3_ : Int) (r4_ : Int) (r5_ : ((Option Addr × Nat × Nat)) × (Int) × Unit) (r7_ : Int) (r8_ : Int) (r9_ : Int) (r10_ : Int) (r12_ : Int) : M (Value) :=
 M.callS (.one (.cell (.int .i64))) (X (.call 39 [(.pointer r0_.1), (.int .i64 1), (.int .i64 (-1)), (.bool true)])) fun (r13_ : Int) =>
 M.callS (.tuple [(.cell .slice), (.cell (.int .i64))]) (X (.call 40 [(.pointer r0_.1), (.int .i64 1), (.int .i64 3800), (.int .i64 100)])) fun (r14_ : ((Option Addr × Nat × Nat)) × (Int) × Unit) =>
 M.callS (.tuple [(.cell .slice), (.cell (.int .i64))]) (X (.call 40 [(.pointer r0_.1), (.int .i64 1), (.int .i64 (-1)), (.int .i64 0)])) fun (r15_ : ((Option Addr × Nat × Nat)) × (Int) × Unit) =>
 f5c8 X L r0_ r3_ r4_ r5_ r7_ r8_ r9_ r10_ r12_ r13_ r14_ r15_
def f5c10 (X : Task → M Value) (L : LoopI) (r0_ : (Option Addr) × (Option Addr) × (Option Addr) × (Option Addr) × Unit) (r3_ : Int) (r4_ : Int) (r5_ : ((Option Addr × Nat × Nat)) × (Int) × Unit) (r7_ : Int) (r8_ : Int) : M (Value) :=
 M.callS (.one (.cell (.int .i64))) (X (.call 41 [(.pointer r0_.1), (.int .i64 1), (.int .i64 (-1)), (.slice none 0 0), (.bool true)])) fun (r9_ : Int) =>
 M.callS (.one (.cell (.int .i64))) (X (.call 39 [(.pointer r0_.1), (.int .i64 1), (.int .i64 3809), (.bool true)])) fun (r10_ : Int) =>
 M.new (.cells (Row.ofList [(.int .u8 7)]) 5 false (0, 0) false) fun b11_ =>
 M.callS (.one (.cell (.int .i64))) (X (.call 41 [(.pointer r0_.1), (.int .i64 1), (.int .i64 3807), (.slice (some (Addr.mk b11_ 0 none)) 1 1), (.bool true)])) fun (r12_ : Int) =>
 f5c9 X L r0_ r3_ r4_ r5_ r7_ r8_ r9_ r10_ r12_
def f5c11 (X : Task → M Value) (L : LoopI) (r0_ : (Option Addr) × (Option Addr) × (Option Addr) × (Option Addr) × Unit) (r3_ : Int) (r4_ : Int) : M (Value) :=
 M.callS (.tuple [(.cell .slice), (.cell (.int .i64))]) (X (.call 40 [(.pointer r0_.1), (.int .i64 1), (.int .i64 0), (.int .i64 9)])) fun (r5_ : ((Option Addr × Nat × Nat)) × (Int) × Unit) =>
 M.new (.cells (Row.ofList [(.int .u8 1)]) 5 false (0, 0) false) fun b6_ =>
 M.callS (.one (.cell (.int .i64))) (X (.call 41 [(.pointer r0_.1), (.int .i64 1), (.int .i64 3808), (.slice (some (Addr.mk b6_ 0 none)) 1 1), (.bool true)])) fun (r7_ : Int) =>
 M.callS (.one (.cell (.int .i64))) (X (.call 41 [(.pointer r0_.1), (.int .i64 1), (.int .i64 3808), (.slice none 0 0), (.bool true)])) fun (r8_ : Int) =>
 f5c10 X L r0_ r3_ r4_ r5_ r7_ r8_
def f5c12 (X : Task → M Value) (L : LoopI) (r0_ : (Option Addr) × (Option Addr) × (Option Addr) × (Option Addr) × Unit) (go2_ : ((Bool) × Unit) → M (Value)) (r63_ : Int × Int × Int × Int × Int × Int × Int × Int × Int × Int × Int × Unit) (b64_ : Nat) : M (Value) :=
 M.callS (.one (.cell (.int .i64))) (X (.call 38 [(.pointer r0_.1), (.agg ⟨[(.int .i64 r63_.1), (.int .i64 r63_.2.1), (.int .i64 r63_.2.2.1), (.int .i64 r63_.2.2.2.1), (.int .u32 r63_.2.2.2.2.1), (.int .u32 r63_.2.2.2.2.2.1), (.int .u32 r63_.2.2.2.2.2.2.1), (.int .u32 r63_.2.2.2.2.2.2.2.1), (.int .u32 r63_.2.2.2.2.2.2.2.2.1), (.int .u32 r63_.2.2.2.2.2.2.2.2.2.1), (.int .u32 r63_.2.2.2.2.2.2.2.2.2.2.1)]⟩), (.slice (some (Addr.mk b64_ 0 none)) 3 3), (.bool true)])) fun (r65_ : Int) =>
 go2_ ((!(r65_ == 0)), ())
def f5c13 (X : Task → M Value) (L : LoopI) (r0_ : (Option Addr) × (Option Addr) × (Option Addr) × (Option Addr) × Unit) (go2_ : ((Bool) × Unit) → M (Value)) : M (Value) :=
 M.eqPtr r0_.1 none fun (q62_ : Bool) =>
 M.ite q62_
 (go2_ (true, ()))
 (M.callS (.one (.agg [(.int .i64), (.int .i64), (.int .i64), (.int .i64), (.int .u32), (.int .u32), (.int .u32), (.int .u32), (.int .u32), (.int .u32), (.int .u32)])) (X (.call 9 [(.int .i64 1)])) fun (r63_ : Int × Int × Int × Int × Int × Int × Int × Int × Int × Int × Int × Unit) =>
 M.new (.cells (Row.ofList [(.int .u8 97), (.int .u8 98), (.int .u8 99)]) 5 false (0, 0) false) fun b64_ =>
 M.mark (Addr.mk b64_ 0 none)
 (f5c12 X L r0_ go2_ r63_ b64_))
def f5c14 (X : Task → M Value) (L : LoopI) : M (Value) :=
 M.callS (.tuple [(.cell .ptr), (.cell .ptr), (.cell .ptr), (.cell .ptr)]) (X (.call 6 [(.int .i64 1), (.int .i64 1), (.int .i64 60)])) fun (r0_ : (Option Addr) × (Option Addr) × (Option Addr) × (Option Addr) × Unit) =>
 M.join (fun (j1_ : (Bool) × Unit) =>
 M.ite j1_.1
 (M.pure (.bool false))
 (M.callS (.one (.cell (.int .i64))) (X (.call 39 [(.pointer r0_.1), (.int .i64 1), (.int .i64 1), (.bool true)])) fun (r3_ : Int) =>
 M.callS (.one (.cell (.int .i64))) (X (.call 39 [(.pointer r0_.1), (.int .i64 1), (.int .i64 5), (.bool true)])) fun (r4_ : Int) =>
 f5c11 X L r0_ r3_ r4_)) fun go2_ =>
 M.callS (.one (.cell .bool)) (X (.call 37 [])) fun (r60_ : Bool) =>
 M.ite (!r60_)
 (go2_ (true, ()))
 (f5c13 X L r0_ go2_)
def f5 (X : Task → M Value) (L : LoopI) (x : Unit) : M Value :=
 f5c14 X L

theorem e5 (X : Task → M Value) (L : LoopI) (x : Unit) : evBody CC { call := X, loop := L } 5 (shsInj [] x) = f5 X L x := by kernel_rfl

/-- hayrick/hayricklaw18.Made -/
def f6c0 (X : Task → M Value) (L : LoopI) (r0_ : (Option Addr) × (Option Addr) × (Option Addr) × (Option Addr) × Unit) (r2_ : (Option Addr) × (Int) × Unit) : M (Value) :=
 M.new (.cells (Row.ofList [(.pointer r0_.2.1), (.int .u32 0), (.int .u32 0), (.int .u32 0), (.int .u32 0), (.int .u32 0), (.int .u32 0), (.int .u32 0), (.int .u32 0), (.int .u32 0), (.int .u32 0), (.int .u32 0), (.int .u32 0), (.int .u32 0), (.int .u32 0), (.int .u32 0), (.int .u32 0), (.int .u32 0), (.int .u32 0), (.int .u32 0), (.int .u32 0), (.int .u32 0), (.int .u32 0), (.int .u32 0), (.int .u32 0), (.int .u32 0), (.int .u32 0), (.int .u32 0), (.int .u32 0), (.int .u32 0), (.int .u32 0), (.int .u32 0), (.int .u32 0), (.int .u32 0), (.int .u32 0), (.int .u32 0), (.int .u32 0), (.int .u32 0), (.int .u32 0), (.int .u32 0), (.int .u32 0), (.int .u32 0), (.int .u32 0), (.int .u32 0), (.int .u32 0), (.int .u32 0), (.int .u32 0), (.int .u32 0), (.int .u32 0), (.int .u32 0), (.int .u32 0), (.int .u32 0), (.int .u32 0), (.int .u32 0), (.int .u32 0), (.int .u32 0), (.int .u32 0), (.int .u32 0), (.int .u32 0), (.int .u32 0), (.int .u32 0), (.int .u32 0), (.int .u32 0), (.int .u32 0), (.int .u32 0)]) 87 false (0, 0) false) fun b4_ =>
 M.pure (.tuple ⟨[(.pointer r2_.1), (.pointer (some (Addr.mk b4_ 0 none))), (.pointer r0_.2.2.1), (.pointer r0_.2.1)]⟩)
def f6c1 (X : Task → M Value) (L : LoopI) (r0_ : (Option Addr) × (Option Addr) × (Option Addr) × (Option Addr) × Unit) : M (Value) :=
 M.callS (.tuple [(.cell .ptr), (.cell (.int .i64))]) (X (.call 11 [(.pointer r0_.1), (.agg ⟨[(.int .u32 0), (.int .u32 0), (.int .u32 0), (.int .u32 0), (.int .u32 0), (.int .u32 0), (.int .u32 0), (.int .u32 0), (.int .u32 0), (.int .u32 0), (.int .u32 0), (.int .u32 0), (.int .u32 0), (.int .u32 0), (.int .u32 0), (.int .u32 0), (.int .u32 0), (.int .u32 0), (.int .u32 0), (.int .u32 0), (.int .u32 0), (.int .u32 0), (.int .u32 0), (.int .u32 0), (.int .u32 0), (.int .u32 0), (.int .u32 0), (.int .u32 0), (.int .u32 0), (.int .u32 0), (.int .u32 0), (.int .u32 0), (.int .u32 0), (.int .u32 0), (.int .u32 0), (.int .u32 0), (.int .u32 0), (.int .u32 0), (.int .u32 0), (.int .u32 0), (.int .u32 0), (.int .u32 0), (.int .u32 0), (.int .u32 0), (.int .u32 0), (.int .u32 0), (.int .u32 0), (.int .u32 0), (.int .u32 0), (.int .u32 0), (.int .u32 0), (.int .u32 0), (.int .u32 0), (.int .u32 0), (.int .u32 0), (.int .u32 0), (.int .u32 0), (.int .u32 0), (.int .u32 0), (.int .u32 0), (.int .u32 0), (.int .u32 0), (.int .u32 0), (.int .u32 0)]⟩)])) fun (r2_ : (Option Addr) × (Int) × Unit) =>
 M.ite (!(r2_.2.1 == 0))
 (M.pure (.tuple ⟨[(.pointer none), (.pointer none), (.pointer none), (.pointer none)]⟩))
 (f6c0 X L r0_ r2_)
def f6 (X : Task → M Value) (L : LoopI) (x : (Int) × (Int) × (Int) × Unit) : M Value :=
 M.callS (.tuple [(.cell .ptr), (.cell .ptr), (.cell .ptr), (.cell .ptr)]) (X (.call 19 [(.int .i64 x.1), (.int .i64 x.2.1), (.int .i64 x.2.2.1)])) fun (r0_ : (Option Addr) × (Option Addr) × (Option Addr) × (Option Addr) × Unit) =>
 M.eqPtr r0_.1 none fun (q1_ : Bool) =>
 M.ite q1_
 (M.pure (.tuple ⟨[(.pointer none), (.pointer none), (.pointer none), (.pointer none)]⟩))
 (f6c1 X L r0_)

theorem e6 (X : Task → M Value) (L : LoopI) (x : (Int) × (Int) × (Int) × Unit) : evBody CC { call := X, loop := L } 6 (shsInj [(.cell (.int .i64)), (.cell (.int .i64)), (.cell (.int .i64))] x) = f6 X L x := by kernel_rfl

/-- (*hayrick/store.Store).Save -/
def f8c0 (X : Task → M Value) (L : LoopI) (x : (Option Addr) × (Int × Int × Int × Int × Int × Int × Int × Int × Int × Int × Int × Unit) × (Bool) × Unit) (b0_ : Nat) (x1_ : Int × Int × Int × Int × Int × Int × Int × Int × Int × Int × Int × Unit) : M (Value) :=
 M.callS (.tuple [(.cell (.int .u32)), (.cell (.int .i64))]) (X (.call 43 [(.pointer x.1), (.iface 90 (.agg ⟨[(.int .i64 x1_.1), (.int .i64 x1_.2.1), (.int .i64 x1_.2.2.1), (.int .i64 x1_.2.2.2.1), (.int .u32 x1_.2.2.2.2.1), (.int .u32 x1_.2.2.2.2.2.1), (.int .u32 x1_.2.2.2.2.2.2.1), (.int .u32 x1_.2.2.2.2.2.2.2.1), (.int .u32 x1_.2.2.2.2.2.2.2.2.1), (.int .u32 x1_.2.2.2.2.2.2.2.2.2.1), (.int .u32 x1_.2.2.2.2.2.2.2.2.2.2.1)]⟩)), (.bool x.2.2.1)])) fun (r2_ : (Int) × (Int) × Unit) =>
 M.join (fun (j3_ : Unit) =>
 M.pure (.int .i64 r2_.2.1)) fun go4_ =>
 M.ite (r2_.2.1 == 0)
 (M.load (.cell (.int .i64)) 1 ((Addr.mk b0_ 0 none).add 0) fun (x6_ : Int) =>
 let v7_ : Int := IntKind.i64.wrap (x6_ - 1)
 M.deref x.1 fun a8_ =>
 M.guard (decide (0 ≤ v7_) && decide (v7_ < ((64 : Nat) : Int)))
 (M.store ((a8_.add 1).add ((Int.toNat v7_) * 1)) [(.int .u32 r2_.1)]
 (go4_ (()))))
 (go4_ (()))
def f8c1 (X : Task → M Value) (L : LoopI) (x : (Option Addr) × (Int × Int × Int × Int × Int × Int × Int × Int × Int × Int × Int × Unit) × (Bool) × Unit) : M (Value) :=
 M.new (.cells (Row.ofList [(.int .i64 x.2.1.1), (.int .i64 x.2.1.2.1), (.int .i64 x.2.1.2.2.1), (.int .i64 x.2.1.2.2.2.1), (.int .u32 x.2.1.2.2.2.2.1), (.int .u32 x.2.1.2.2.2.2.2.1), (.int .u32 x.2.1.2.2.2.2.2.2.1), (.int .u32 x.2.1.2.2.2.2.2.2.2.1), (.int .u32 x.2.1.2.2.2.2.2.2.2.2.1), (.int .u32 x.2.1.2.2.2.2.2.2.2.2.2.1), (.int .u32 x.2.1.2.2.2.2.2.2.2.2.2.2.1)]) 34 false (0, 0) false) fun b0_ =>
 M.load (.agg [(.int .i64), (.int .i64), (.int .i64), (.int .i64), (.int .u32), (.int .u32), (.int .u32), (.int .u32), (.int .u32), (.int .u32), (.int .u32)]) 11 (Addr.mk b0_ 0 none) fun (x1_ : Int × Int × Int × Int × Int × Int × Int × Int × Int × Int × Int × Unit) =>
 f8c0 X L x b0_ x1_
def f8 (X : Task → M Value) (L : LoopI) (x : (Option Addr) × (Int × Int × Int × Int × Int × Int × Int × Int × Int × Int × Int × Unit) × (Bool) × Unit) : M Value :=
 f8c1 X L x

theorem e8 (X : Task → M Value) (L : LoopI) (x : (Option Addr) × (Int × Int × Int × Int × Int × Int × Int × Int × Int × Int × Int × Unit) × (Bool) × Unit) : evBody CC { call := X, loop := L } 8 (shsInj [(.cell .ptr), (.agg [(.int .i64), (.int .i64), (.int .i64), (.int .i64), (.int .u32), (.int .u32), (.int .u32), (.int .u32), (.int .u32), (.int .u32), (.int .u32)]), (.cell .bool)] x) = f8 X L x := by kernel_rfl

/-- hayrick/hayricklaw18.Empty -/
def f9c0 (X : Task → M Value) (L : LoopI) (b0_ : Nat) : M (Value) :=
 M.load (.agg [(.int .i64), (.int .i64), (.int .i64), (.int .i64), (.int .u32), (.int .u32), (.int .u32), (.int .u32), (.int .u32), (.int .u32), (.int .u32)]) 11 (Addr.mk b0_ 0 none) fun (x1_ : Int × Int × Int × Int × Int × Int × Int × Int × Int × Int × Int × Unit) =>
 M.pure (.agg ⟨[(.int .i64 x1_.1), (.int .i64 x1_.2.1), (.int .i64 x1_.2.2.1), (.int .i64 x1_.2.2.2.1), (.int .u32 x1_.2.2.2.2.1), (.int .u32 x1_.2.2.2.2.2.1), (.int .u32 x1_.2.2.2.2.2.2.1), (.int .u32 x1_.2.2.2.2.2.2.2.1), (.int .u32 x1_.2.2.2.2.2.2.2.2.1), (.int .u32 x1_.2.2.2.2.2.2.2.2.2.1), (.int .u32 x1_.2.2.2.2.2.2.2.2.2.2.1)]⟩)
def f9 (X : Task → M Value) (L : LoopI) (x : (Int) × Unit) : M Value :=
 M.new (.cells (Row.ofList [(.int .i64 0), (.int .i64 0), (.int .i64 0), (.int .i64 0), (.int .u32 0), (.int .u32 0), (.int .u32 0), (.int .u32 0), (.int .u32 0), (.int .u32 0), (.int .u32 0)]) 34 false (0, 0) false) fun b0_ =>
 M.store (Addr.mk b0_ 0 none) [(.int .i64 x.1), (.int .i64 1), (.int .i64 0), (.int .i64 1), (.int .u32 0), (.int .u32 0), (.int .u32 0), (.int .u32 0), (.int .u32 0), (.int .u32 0), (.int .u32 0)]
 (f9c0 X L b0_)

theorem e9 (X : Task → M Value) (L : LoopI) (x : (Int) × Unit) : evBody CC { call := X, loop := L } 9 (shsInj [(.cell (.int .i64))] x) = f9 X L x := by kernel_rfl

/-- hayrick/store.New -/
def f11c0 (X : Task → M Value) (L : LoopI) (x : (Option Addr) × (List Value) × Unit) (b0_ : Nat) : M (Value) :=
 M.callS (.one (.cell .ptr)) (X (.call 36 [(.pointer x.1)])) fun (r1_ : Option Addr) =>
 M.eqPtr r1_ none fun (q2_ : Bool) =>
 M.ite q2_
 (M.pure (.tuple ⟨[(.pointer none), (.int .i64 2)]⟩))
 (M.load .raw 64 (Addr.mk b0_ 0 none) fun (x3_ : List Value) =>
 M.need (fillA (fun i => ([(0, 1), (1, 64)] : List (Nat × Nat))[i]?) (zc 92) [(0, (.pointer x.1)), (1, (.agg ⟨x3_⟩))]) fun x4_ =>
 M.new (.cells (Row.ofList x4_) 92 false (0, 0) false) fun b5_ =>
 M.pure (.tuple ⟨[(.pointer (some (Addr.mk b5_ 0 none))), (.int .i64 0)]⟩))
def f11 (X : Task → M Value) (L : LoopI) (x : (Option Addr) × (List Value) × Unit) : M Value :=
 M.new (.cells (Row.ofList x.2.1) 36 false (0, 0) false) fun b0_ =>
 f11c0 X L x b0_

theorem e11 (X : Task → M Value) (L : LoopI) (x : (Option Addr) × (List Value) × Unit) : evBody CC { call := X, loop := L } 11 (shsInj [(.cell .ptr), .raw] x) = f11 X L x := by kernel_rfl

/-- (*hayrick/store.Store).Log -/
def f12 (X : Task → M Value) (L : LoopI) (x : (Option Addr) × Unit) : M Value :=
 M.eqPtr x.1 none fun (q0_ : Bool) =>
 M.ite q0_
 (M.pure (.pointer none))
 (M.deref x.1 fun a1_ =>
 M.load (.cell .ptr) 1 (a1_.add 0) fun (x2_ : Option Addr) =>
 M.pure (.pointer x2_))

theorem e12 (X : Task → M Value) (L : LoopI) (x : (Option Addr) × Unit) : evBody CC { call := X, loop := L } 12 (shsInj [(.cell .ptr)] x) = f12 X L x := by kernel_rfl

/-- (*hayrick/store.Store).Load -/
def f13c0 (X : Task → M Value) (L : LoopI) (b0_ : Nat) (r1_ : Int) : M (Value) :=
 M.load (.agg [(.int .i64), (.int .i64), (.int .i64), (.int .i64), (.int .u32), (.int .u32), (.int .u32), (.int .u32), (.int .u32), (.int .u32), (.int .u32)]) 11 (Addr.mk b0_ 0 none) fun (x3_ : Int × Int × Int × Int × Int × Int × Int × Int × Int × Int × Int × Unit) =>
 M.pure (.tuple ⟨[(.agg ⟨[(.int .i64 x3_.1), (.int .i64 x3_.2.1), (.int .i64 x3_.2.2.1), (.int .i64 x3_.2.2.2.1), (.int .u32 x3_.2.2.2.2.1), (.int .u32 x3_.2.2.2.2.2.1), (.int .u32 x3_.2.2.2.2.2.2.1), (.int .u32 x3_.2.2.2.2.2.2.2.1), (.int .u32 x3_.2.2.2.2.2.2.2.2.1), (.int .u32 x3_.2.2.2.2.2.2.2.2.2.1), (.int .u32 x3_.2.2.2.2.2.2.2.2.2.2.1)]⟩), (.int .i64 r1_)]⟩)
def f13c1 (X : Task → M Value) (L : LoopI) (b0_ : Nat) : M (Value) :=
 M.load (.agg [(.int .i64), (.int .i64), (.int .i64), (.int .i64), (.int .u32), (.int .u32), (.int .u32), (.int .u32), (.int .u32), (.int .u32), (.int .u32)]) 11 (Addr.mk b0_ 0 none) fun (x8_ : Int × Int × Int × Int × Int × Int × Int × Int × Int × Int × Int × Unit) =>
 M.pure (.tuple ⟨[(.agg ⟨[(.int .i64 x8_.1), (.int .i64 x8_.2.1), (.int .i64 x8_.2.2.1), (.int .i64 x8_.2.2.2.1), (.int .u32 x8_.2.2.2.2.1), (.int .u32 x8_.2.2.2.2.2.1), (.int .u32 x8_.2.2.2.2.2.2.1), (.int .u32 x8_.2.2.2.2.2.2.2.1), (.int .u32 x8_.2.2.2.2.2.2.2.2.1), (.int .u32 x8_.2.2.2.2.2.2.2.2.2.1), (.int .u32 x8_.2.2.2.2.2.2.2.2.2.2.1)]⟩), (.int .i64 6)]⟩)
def f13c2 (X : Task → M Value) (L : LoopI) (b0_ : Nat) (r11_ : ((Option Addr × Nat × Nat)) × (Int) × Unit) : M (Value) :=
 M.load (.agg [(.int .i64), (.int .i64), (.int .i64), (.int .i64), (.int .u32), (.int .u32), (.int .u32), (.int .u32), (.int .u32), (.int .u32), (.int .u32)]) 11 (Addr.mk b0_ 0 none) fun (x13_ : Int × Int × Int × Int × Int × Int × Int × Int × Int × Int × Int × Unit) =>
 M.pure (.tuple ⟨[(.agg ⟨[(.int .i64 x13_.1), (.int .i64 x13_.2.1), (.int .i64 x13_.2.2.1), (.int .i64 x13_.2.2.2.1), (.int .u32 x13_.2.2.2.2.1), (.int .u32 x13_.2.2.2.2.2.1), (.int .u32 x13_.2.2.2.2.2.2.1), (.int .u32 x13_.2.2.2.2.2.2.2.1), (.int .u32 x13_.2.2.2.2.2.2.2.2.1), (.int .u32 x13_.2.2.2.2.2.2.2.2.2.1), (.int .u32 x13_.2.2.2.2.2.2.2.2.2.2.1)]⟩), (.int .i64 r11_.2.1)]⟩)
def f13c3 (X : Task → M Value) (L : LoopI) (b0_ : Nat) : M (Value) :=
 M.load (.agg [(.int .i64), (.int .i64), (.int .i64), (.int .i64), (.int .u32), (.int .u32), (.int .u32), (.int .u32), (.int .u32), (.int .u32), (.int .u32)]) 11 (Addr.mk b0_ 0 none) fun (x18_ : Int × Int × Int × Int × Int × Int × Int × Int × Int × Int × Int × Unit) =>
 M.pure (.tuple ⟨[(.agg ⟨[(.int .i64 x18_.1), (.int .i64 x18_.2.1), (.int .i64 x18_.2.2.1), (.int .i64 x18_.2.2.2.1), (.int .u32 x18_.2.2.2.2.1), (.int .u32 x18_.2.2.2.2.2.1), (.int .u32 x18_.2.2.2.2.2.2.1), (.int .u32 x18_.2.2.2.2.2.2.2.1), (.int .u32 x18_.2.2.2.2.2.2.2.2.1), (.int .u32 x18_.2.2.2.2.2.2.2.2.2.1), (.int .u32 x18_.2.2.2.2.2.2.2.2.2.2.1)]⟩), (.int .i64 5)]⟩)
def f13c4 (X : Task → M Value) (L : LoopI) (b0_ : Nat) : M (Value) :=
 M.load (.agg [(.int .i64), (.int .i64), (.int .i64), (.int .i64), (.int .u32), (.int .u32), (.int .u32), (.int .u32), (.int .u32), (.int .u32), (.int .u32)]) 11 (Addr.mk b0_ 0 none) fun (x20_ : Int × Int × Int × Int × Int × Int × Int × Int × Int × Int × Int × Unit) =>
 M.pure (.tuple ⟨[(.agg ⟨[(.int .i64 x20_.1), (.int .i64 x20_.2.1), (.int .i64 x20_.2.2.1), (.int .i64 x20_.2.2.2.1), (.int .u32 x20_.2.2.2.2.1), (.int .u32 x20_.2.2.2.2.2.1), (.int .u32 x20_.2.2.2.2.2.2.1), (.int .u32 x20_.2.2.2.2.2.2.2.1), (.int .u32 x20_.2.2.2.2.2.2.2.2.1), (.int .u32 x20_.2.2.2.2.2.2.2.2.2.1), (.int .u32 x20_.2.2.2.2.2.2.2.2.2.2.1)]⟩), (.int .i64 0)]⟩)
def f13c5 (X : Task → M Value) (L : LoopI) (b0_ : Nat) (b15_ : Nat) : M (Value) :=
 M.load (.agg [(.int .i64), (.int .i64), (.int .i64), (.int .i64), (.int .u32), (.int .u32), (.int .u32), (.int .u32), (.int .u32), (.int .u32), (.int .u32)]) 11 (Addr.mk b15_ 0 none) fun (x19_ : Int × Int × Int × Int × Int × Int × Int × Int × Int × Int × Int × Unit) =>
 M.store (Addr.mk b0_ 0 none) [(.int .i64 x19_.1), (.int .i64 x19_.2.1), (.int .i64 x19_.2.2.1), (.int .i64 x19_.2.2.2.1), (.int .u32 x19_.2.2.2.2.1), (.int .u32 x19_.2.2.2.2.2.1), (.int .u32 x19_.2.2.2.2.2.2.1), (.int .u32 x19_.2.2.2.2.2.2.2.1), (.int .u32 x19_.2.2.2.2.2.2.2.2.1), (.int .u32 x19_.2.2.2.2.2.2.2.2.2.1), (.int .u32 x19_.2.2.2.2.2.2.2.2.2.2.1)]
 (f13c4 X L b0_)
def f13c6 (X : Task → M Value) (L : LoopI) (x : (Option Addr) × (Int) × Unit) (b0_ : Nat) (r14_ : (Int × Int × Int × Int × Int × Int × Int × Int × Int × Int × Int × Unit) × (Int) × Unit) (b15_ : Nat) : M (Value) :=
 M.store (Addr.mk b15_ 0 none) [(.int .i64 r14_.1.1), (.int .i64 r14_.1.2.1), (.int .i64 r14_.1.2.2.1), (.int .i64 r14_.1.2.2.2.1), (.int .u32 r14_.1.2.2.2.2.1), (.int .u32 r14_.1.2.2.2.2.2.1), (.int .u32 r14_.1.2.2.2.2.2.2.1), (.int .u32 r14_.1.2.2.2.2.2.2.2.1), (.int .u32 r14_.1.2.2.2.2.2.2.2.2.1), (.int .u32 r14_.1.2.2.2.2.2.2.2.2.2.1), (.int .u32 r14_.1.2.2.2.2.2.2.2.2.2.2.1)]
 (M.join (fun (j16_ : (Bool) × Unit) =>
 M.ite j16_.1
 (M.store (Addr.mk b0_ 0 none) [(.int .i64 0), (.int .i64 0), (.int .i64 0), (.int .i64 0), (.int .u32 0), (.int .u32 0), (.int .u32 0), (.int .u32 0), (.int .u32 0), (.int .u32 0), (.int .u32 0)]
 (f13c3 X L b0_))
 (f13c5 X L b0_ b15_)) fun go17_ =>
 M.ite (!(r14_.2.1 == 0))
 (go17_ (true, ()))
 (M.load (.cell (.int .i64)) 1 ((Addr.mk b15_ 0 none).add 0) fun (x22_ : Int) =>
 go17_ ((!(x22_ == x.2.1)), ())))
def f13c7 (X : Task → M Value) (L : LoopI) (x : (Option Addr) × (Int) × Unit) (b0_ : Nat) (r11_ : ((Option Addr × Nat × Nat)) × (Int) × Unit) : M (Value) :=
 M.callS (.tuple [(.agg [(.int .i64), (.int .i64), (.int .i64), (.int .i64), (.int .u32), (.int .u32), (.int .u32), (.int .u32), (.int .u32), (.int .u32), (.int .u32)]), (.cell (.int .i64))]) (X (.call 45 [(.slice r11_.1.1 r11_.1.2.1 r11_.1.2.2)])) fun (r14_ : (Int × Int × Int × Int × Int × Int × Int × Int × Int × Int × Int × Unit) × (Int) × Unit) =>
 M.new (.cells (Row.ofList [(.int .i64 0), (.int .i64 0), (.int .i64 0), (.int .i64 0), (.int .u32 0), (.int .u32 0), (.int .u32 0), (.int .u32 0), (.int .u32 0), (.int .u32 0), (.int .u32 0)]) 34 false (0, 0) false) fun b15_ =>
 f13c6 X L x b0_ r14_ b15_
def f13c8 (X : Task → M Value) (L : LoopI) (x : (Option Addr) × (Int) × Unit) (b0_ : Nat) (x6_ : Int) : M (Value) :=
 M.deref x.1 fun a9_ =>
 M.load (.cell .ptr) 1 (a9_.add 0) fun (x10_ : Option Addr) =>
 M.callS (.tuple [(.cell .slice), (.cell (.int .i64))]) (X (.call 24 [(.pointer x10_), (.int .u32 x6_)])) fun (r11_ : ((Option Addr × Nat × Nat)) × (Int) × Unit) =>
 M.ite (!(r11_.2.1 == 0))
 (M.store (Addr.mk b0_ 0 none) [(.int .i64 0), (.int .i64 0), (.int .i64 0), (.int .i64 0), (.int .u32 0), (.int .u32 0), (.int .u32 0), (.int .u32 0), (.int .u32 0), (.int .u32 0), (.int .u32 0)]
 (f13c2 X L b0_ r11_))
 (f13c7 X L x b0_ r11_)
def f13c9 (X : Task → M Value) (L : LoopI) (x : (Option Addr) × (Int) × Unit) (b0_ : Nat) (r1_ : Int) (v2_ : Bool) : M (Value) :=
 M.ite v2_
 (M.store (Addr.mk b0_ 0 none) [(.int .i64 0), (.int .i64 0), (.int .i64 0), (.int .i64 0), (.int .u32 0), (.int .u32 0), (.int .u32 0), (.int .u32 0), (.int .u32 0), (.int .u32 0), (.int .u32 0)]
 (f13c0 X L b0_ r1_))
 (let v4_ : Int := IntKind.i64.wrap (x.2.1 - 1)
 M.deref x.1 fun a5_ =>
 M.guard (decide (0 ≤ v4_) && decide (v4_ < ((64 : Nat) : Int)))
 (M.load (.cell (.int .u32)) 1 ((a5_.add 1).add ((Int.toNat v4_) * 1)) fun (x6_ : Int) =>
 M.ite (x6_ == 0)
 (M.store (Addr.mk b0_ 0 none) [(.int .i64 0), (.int .i64 0), (.int .i64 0), (.int .i64 0), (.int .u32 0), (.int .u32 0), (.int .u32 0), (.int .u32 0), (.int .u32 0), (.int .u32 0), (.int .u32 0)]
 (f13c1 X L b0_))
 (f13c8 X L x b0_ x6_)))
def f13 (X : Task → M Value) (L : LoopI) (x : (Option Addr) × (Int) × Unit) : M Value :=
 M.new (.cells (Row.ofList [(.int .i64 0), (.int .i64 0), (.int .i64 0), (.int .i64 0), (.int .u32 0), (.int .u32 0), (.int .u32 0), (.int .u32 0), (.int .u32 0), (.int .u32 0), (.int .u32 0)]) 34 false (0, 0) false) fun b0_ =>
 M.callS (.one (.cell (.int .i64))) (X (.call 44 [(.pointer x.1), (.int .i64 x.2.1)])) fun (r1_ : Int) =>
 f13c9 X L x b0_ r1_ (!(r1_ == 0))

theorem e13 (X : Task → M Value) (L : LoopI) (x : (Option Addr) × (Int) × Unit) : evBody CC { call := X, loop := L } 13 (shsInj [(.cell .ptr), (.cell (.int .i64))] x) = f13 X L x := by kernel_rfl

/-- (*hayrick/store.Store).Points -/
def f15 (X : Task → M Value) (L : LoopI) (x : (Option Addr) × (Int) × ((Option Addr × Nat × Nat)) × (Bool) × Unit) : M Value :=
 M.callS (.tuple [(.cell (.int .u32)), (.cell (.int .i64))]) (X (.call 43 [(.pointer x.1), (.iface 98 (.agg ⟨[(.int .i64 x.2.1), (.slice x.2.2.1.1 x.2.2.1.2.1 x.2.2.1.2.2)]⟩)), (.bool x.2.2.2.1)])) fun (r0_ : (Int) × (Int) × Unit) =>
 M.pure (.tuple ⟨[(.int .u32 r0_.1), (.int .i64 r0_.2.1)]⟩)

theorem e15 (X : Task → M Value) (L : LoopI) (x : (Option Addr) × (Int) × ((Option Addr × Nat × Nat)) × (Bool) × Unit) : evBody CC { call := X, loop := L } 15 (shsInj [(.cell .ptr), (.cell (.int .i64)), (.cell .slice), (.cell .bool)] x) = f15 X L x := by kernel_rfl

/-- (*hayrick/store.Store).Data -/
def f16 (X : Task → M Value) (L : LoopI) (x : (Option Addr) × (Int) × (Int) × ((Option Addr × Nat × Nat)) × (Bool) × Unit) : M Value :=
 M.callS (.tuple [(.cell (.int .u32)), (.cell (.int .i64))]) (X (.call 43 [(.pointer x.1), (.iface 100 (.agg ⟨[(.int .i64 x.2.1), (.int .i64 x.2.2.1), (.slice x.2.2.2.1.1 x.2.2.2.1.2.1 x.2.2.2.1.2.2)]⟩)), (.bool x.2.2.2.2.1)])) fun (r0_ : (Int) × (Int) × Unit) =>
 M.pure (.tuple ⟨[(.int .u32 r0_.1), (.int .i64 r0_.2.1)]⟩)

theorem e16 (X : Task → M Value) (L : LoopI) (x : (Option Addr) × (Int) × (Int) × ((Option Addr × Nat × Nat)) × (Bool) × Unit) : evBody CC { call := X, loop := L } 16 (shsInj [(.cell .ptr), (.cell (.int .i64)), (.cell (.int .i64)), (.cell .slice), (.cell .bool)] x) = f16 X L x := by kernel_rfl

/-- (*hayrick/store.Store).Pointers -/
def f17c0 (X : Task → M Value) (L : LoopI) (j6_ : ((Option Addr × Nat × Nat)) × Unit) (x8_ : Int × Int × Int × Int × Int × Int × Int × Int × Int × Int × Int × Unit) : M (Value) :=
 M.callS (.tuple [(.cell .slice), (.cell (.int .i64))]) (X (.call 48 [(.agg ⟨[(.int .i64 x8_.1), (.int .i64 x8_.2.1), (.int .i64 x8_.2.2.1), (.int .i64 x8_.2.2.2.1), (.int .u32 x8_.2.2.2.2.1), (.int .u32 x8_.2.2.2.2.2.1), (.int .u32 x8_.2.2.2.2.2.2.1), (.int .u32 x8_.2.2.2.2.2.2.2.1), (.int .u32 x8_.2.2.2.2.2.2.2.2.1), (.int .u32 x8_.2.2.2.2.2.2.2.2.2.1), (.int .u32 x8_.2.2.2.2.2.2.2.2.2.2.1)]⟩), (.slice j6_.1.1 j6_.1.2.1 j6_.1.2.2)])) fun (r9_ : ((Option Addr × Nat × Nat)) × (Int) × Unit) =>
 M.pure (.tuple ⟨[(.slice r9_.1.1 r9_.1.2.1 r9_.1.2.2), (.int .i64 r9_.2.1)]⟩)
def f17c1 (X : Task → M Value) (L : LoopI) (go7_ : (((Option Addr × Nat × Nat)) × Unit) → M (Value)) (x13_ : Option Addr) (x14_ : Int) : M (Value) :=
 M.callS (.tuple [(.cell .slice), (.cell (.int .i64))]) (X (.call 24 [(.pointer x13_), (.int .u32 x14_)])) fun (r15_ : ((Option Addr × Nat × Nat)) × (Int) × Unit) =>
 M.ite (!(r15_.2.1 == 0))
 (M.pure (.tuple ⟨[(.slice none 0 0), (.int .i64 r15_.2.1)]⟩))
 (M.callS (.tuple [(.cell .slice), (.cell (.int .i64))]) (X (.call 47 [(.slice r15_.1.1 r15_.1.2.1 r15_.1.2.2)])) fun (r17_ : ((Option Addr × Nat × Nat)) × (Int) × Unit) =>
 M.ite (!(r17_.2.1 == 0))
 (M.pure (.tuple ⟨[(.slice none 0 0), (.int .i64 r17_.2.1)]⟩))
 (go7_ (r17_.1, ())))
def f17c2 (X : Task → M Value) (L : LoopI) (x : (Option Addr) × (Int × Int × Int × Int × Int × Int × Int × Int × Int × Int × Int × Unit) × Unit) (b0_ : Nat) : M (Value) :=
 M.join (fun (j6_ : ((Option Addr × Nat × Nat)) × Unit) =>
 M.load (.agg [(.int .i64), (.int .i64), (.int .i64), (.int .i64), (.int .u32), (.int .u32), (.int .u32), (.int .u32), (.int .u32), (.int .u32), (.int .u32)]) 11 (Addr.mk b0_ 0 none) fun (x8_ : Int × Int × Int × Int × Int × Int × Int × Int × Int × Int × Int × Unit) =>
 f17c0 X L j6_ x8_) fun go7_ =>
 M.load (.cell (.int .u32)) 1 ((Addr.mk b0_ 0 none).add 10) fun (x10_ : Int) =>
 M.ite (!(x10_ == 0))
 (M.deref x.1 fun a12_ =>
 M.load (.cell .ptr) 1 (a12_.add 0) fun (x13_ : Option Addr) =>
 M.load (.cell (.int .u32)) 1 ((Addr.mk b0_ 0 none).add 10) fun (x14_ : Int) =>
 f17c1 X L go7_ x13_ x14_)
 (go7_ ((none, 0, 0), ()))
def f17c3 (X : Task → M Value) (L : LoopI) (x : (Option Addr) × (Int × Int × Int × Int × Int × Int × Int × Int × Int × Int × Int × Unit) × Unit) (b0_ : Nat) : M (Value) :=
 M.load (.agg [(.int .i64), (.int .i64), (.int .i64), (.int .i64), (.int .u32), (.int .u32), (.int .u32), (.int .u32), (.int .u32), (.int .u32), (.int .u32)]) 11 (Addr.mk b0_ 0 none) fun (x3_ : Int × Int × Int × Int × Int × Int × Int × Int × Int × Int × Int × Unit) =>
 M.callS (.one (.cell .bool)) (X (.call 46 [(.agg ⟨[(.int .i64 x3_.1), (.int .i64 x3_.2.1), (.int .i64 x3_.2.2.1), (.int .i64 x3_.2.2.2.1), (.int .u32 x3_.2.2.2.2.1), (.int .u32 x3_.2.2.2.2.2.1), (.int .u32 x3_.2.2.2.2.2.2.1), (.int .u32 x3_.2.2.2.2.2.2.2.1), (.int .u32 x3_.2.2.2.2.2.2.2.2.1), (.int .u32 x3_.2.2.2.2.2.2.2.2.2.1), (.int .u32 x3_.2.2.2.2.2.2.2.2.2.2.1)]⟩)])) fun (r4_ : Bool) =>
 M.ite (!r4_)
 (M.pure (.tuple ⟨[(.slice none 0 0), (.int .i64 1)]⟩))
 (f17c2 X L x b0_)
def f17c4 (X : Task → M Value) (L : LoopI) (x : (Option Addr) × (Int × Int × Int × Int × Int × Int × Int × Int × Int × Int × Int × Unit) × Unit) : M (Value) :=
 M.new (.cells (Row.ofList [(.int .i64 x.2.1.1), (.int .i64 x.2.1.2.1), (.int .i64 x.2.1.2.2.1), (.int .i64 x.2.1.2.2.2.1), (.int .u32 x.2.1.2.2.2.2.1), (.int .u32 x.2.1.2.2.2.2.2.1), (.int .u32 x.2.1.2.2.2.2.2.2.1), (.int .u32 x.2.1.2.2.2.2.2.2.2.1), (.int .u32 x.2.1.2.2.2.2.2.2.2.2.1), (.int .u32 x.2.1.2.2.2.2.2.2.2.2.2.1), (.int .u32 x.2.1.2.2.2.2.2.2.2.2.2.2.1)]) 34 false (0, 0) false) fun b0_ =>
 M.callS (.one (.cell (.int .i64))) (X (.call 44 [(.pointer x.1), (.int .i64 1)])) fun (r1_ : Int) =>
 M.ite (!(r1_ == 0))
 (M.pure (.tuple ⟨[(.slice none 0 0), (.int .i64 r1_)]⟩))
 (f17c3 X L x b0_)
def f17 (X : Task → M Value) (L : LoopI) (x : (Option Addr) × (Int × Int × Int × Int × Int × Int × Int × Int × Int × Int × Int × Unit) × Unit) : M Value :=
 f17c4 X L x

theorem e17 (X : Task → M Value) (L : LoopI) (x : (Option Addr) × (Int × Int × Int × Int × Int × Int × Int × Int × Int × Int × Int × Unit) × Unit) : evBody CC { call := X, loop := L } 17 (shsInj [(.cell .ptr), (.agg [(.int .i64), (.int .i64), (.int .i64), (.int .i64), (.int .u32), (.int .u32), (.int .u32), (.int .u32), (.int .u32), (.int .u32), (.int .u32)])] x) = f17 X L x := by kernel_rfl

/-- hayrick/hayricklaw17.Made -/
def f19c0 (X : Task → M Value) (L : LoopI) (x : (Int) × (Int) × (Int) × Unit) (r0_ : (Option Addr) × (Option Addr) × Unit) (r4_ : (Option Addr) × (Int) × Unit) (b5_ : Nat) (r6_ : (Option Addr × Nat × Nat)) : M (Value) :=
 M.callS (.tuple [(.cell .ptr), (.cell (.int .i64))]) (X (.call 51 [(.pointer r0_.2.1), (.int .u64 1), (.slice (some (Addr.mk b5_ 0 none)) (Int.toNat x.2.2.1) (Int.toNat x.2.2.1)), (.slice r6_.1 r6_.2.1 r6_.2.2)])) fun (r7_ : (Option Addr) × (Int) × Unit) =>
 M.join (fun (j8_ : (Bool) × Unit) =>
 M.ite j8_.1
 (M.pure (.tuple ⟨[(.pointer none), (.pointer none), (.pointer none), (.pointer none)]⟩))
 (M.pure (.tuple ⟨[(.pointer r4_.1), (.pointer r7_.1), (.pointer r0_.1), (.pointer r0_.2.1)]⟩))) fun go9_ =>
 M.ite (!(r4_.2.1 == 0))
 (go9_ (true, ()))
 (go9_ ((!(r7_.2.1 == 0)), ()))
def f19c1 (X : Task → M Value) (L : LoopI) (x : (Int) × (Int) × (Int) × Unit) (r0_ : (Option Addr) × (Option Addr) × Unit) (b2_ : Nat) (r3_ : (Option Addr × Nat × Nat)) : M (Value) :=
 M.callS (.tuple [(.cell .ptr), (.cell (.int .i64))]) (X (.call 30 [(.pointer r0_.1), (.int .u64 1), (.slice (some (Addr.mk b2_ 0 none)) (Int.toNat x.2.2.1) (Int.toNat x.2.2.1)), (.slice r3_.1 r3_.2.1 r3_.2.2)])) fun (r4_ : (Option Addr) × (Int) × Unit) =>
 M.guard (decide (0 ≤ x.2.2.1) && decide (x.2.2.1 ≤ x.2.2.1) && decide ((8 : Int) * x.2.2.1 ≤ 2 ^ 48))
 (M.new (.cells (Row.rep [(.int .u64 0)] (Int.toNat x.2.2.1)) 75 false (0, 0) false) fun b5_ =>
 M.callS (.one (.cell .slice)) (X (.call 50 [(.int .i64 x.2.2.1)])) fun (r6_ : (Option Addr × Nat × Nat)) =>
 f19c0 X L x r0_ r4_ b5_ r6_)
def f19c2 (X : Task → M Value) (L : LoopI) (x : (Int) × (Int) × (Int) × Unit) : M (Value) :=
 M.callS (.tuple [(.cell .ptr), (.cell .ptr)]) (X (.call 49 [(.int .i64 x.1), (.int .i64 x.2.1), (.int .i64 x.2.2.1), (.int .i64 0)])) fun (r0_ : (Option Addr) × (Option Addr) × Unit) =>
 M.eqPtr r0_.1 none fun (q1_ : Bool) =>
 M.ite q1_
 (M.pure (.tuple ⟨[(.pointer none), (.pointer none), (.pointer none), (.pointer none)]⟩))
 (M.guard (decide (0 ≤ x.2.2.1) && decide (x.2.2.1 ≤ x.2.2.1) && decide ((8 : Int) * x.2.2.1 ≤ 2 ^ 48))
 (M.new (.cells (Row.rep [(.int .u64 0)] (Int.toNat x.2.2.1)) 75 false (0, 0) false) fun b2_ =>
 M.callS (.one (.cell .slice)) (X (.call 50 [(.int .i64 x.2.2.1)])) fun (r3_ : (Option Addr × Nat × Nat)) =>
 f19c1 X L x r0_ b2_ r3_))
def f19 (X : Task → M Value) (L : LoopI) (x : (Int) × (Int) × (Int) × Unit) : M Value :=
 f19c2 X L x

theorem e19 (X : Task → M Value) (L : LoopI) (x : (Int) × (Int) × (Int) × Unit) : evBody CC { call := X, loop := L } 19 (shsInj [(.cell (.int .i64)), (.cell (.int .i64)), (.cell (.int .i64))] x) = f19 X L x := by kernel_rfl

/-- (*hayrick/logs.Log).Append -/
def f21c0 (X : Task → M Value) (L : LoopI) (b0_ : Nat) (b1_ : Nat) (b2_ : Nat) (b3_ : Nat) (x4_ : Option Addr) : M (Value) :=
 M.callS (.one (.cell (.int .i64))) (X (.call 52 [(.pointer x4_), (.func (.func 53) ⟨[]⟩ ⟨[(.pointer (some (Addr.mk b1_ 0 none))), (.pointer (some (Addr.mk b2_ 0 none))), (.pointer (some (Addr.mk b0_ 0 none))), (.pointer (some (Addr.mk b3_ 0 none)))]⟩)])) fun (r5_ : Int) =>
 M.ite (!(r5_ == 0))
 (M.store (Addr.mk b3_ 0 none) [(.int .u32 0)]
 (M.load (.cell (.int .u32)) 1 (Addr.mk b3_ 0 none) fun (x7_ : Int) =>
 M.pure (.tuple ⟨[(.int .u32 x7_), (.int .i64 r5_)]⟩)))
 (M.load (.cell (.int .u32)) 1 (Addr.mk b3_ 0 none) fun (x8_ : Int) =>
 M.store (Addr.mk b3_ 0 none) [(.int .u32 x8_)]
 (M.load (.cell (.int .u32)) 1 (Addr.mk b3_ 0 none) fun (x9_ : Int) =>
 M.pure (.tuple ⟨[(.int .u32 x9_), (.int .i64 0)]⟩)))
def f21c1 (X : Task → M Value) (L : LoopI) (x : (Option Addr) × (Int × Bool × Int × Int × Unit) × ((Option Addr × Nat × Nat)) × Unit) : M (Value) :=
 M.new (.cells (Row.ofList [(.pointer x.1)]) 40 false (0, 0) false) fun b0_ =>
 M.new (.cells (Row.ofList [(.int .i64 x.2.1.1), (.bool x.2.1.2.1), (.int .i64 x.2.1.2.2.1), (.int .i64 x.2.1.2.2.2.1)]) 58 false (0, 0) false) fun b1_ =>
 M.new (.cells (Row.ofList [(.slice x.2.2.1.1 x.2.2.1.2.1 x.2.2.1.2.2)]) 49 false (0, 0) false) fun b2_ =>
 M.new (.cells (Row.ofList [(.int .u32 0)]) 31 false (0, 0) false) fun b3_ =>
 M.load (.cell .ptr) 1 (Addr.mk b0_ 0 none) fun (x4_ : Option Addr) =>
 f21c0 X L b0_ b1_ b2_ b3_ x4_
def f21 (X : Task → M Value) (L : LoopI) (x : (Option Addr) × (Int × Bool × Int × Int × Unit) × ((Option Addr × Nat × Nat)) × Unit) : M Value :=
 f21c1 X L x

theorem e21 (X : Task → M Value) (L : LoopI) (x : (Option Addr) × (Int × Bool × Int × Int × Unit) × ((Option Addr × Nat × Nat)) × Unit) : evBody CC { call := X, loop := L } 21 (shsInj [(.cell .ptr), (.agg [(.int .i64), .bool, (.int .i64), (.int .i64)]), (.cell .slice)] x) = f21 X L x := by kernel_rfl

/-- hayrick/hayricklaw17.Block -/
def f22 (X : Task → M Value) (L : LoopI) (x : (Int) × Unit) : M Value :=
 M.new (.cells (Row.ofList [(.int .u8 x.1)]) 5 false (0, 0) false) fun b0_ =>
 M.callS (.one (.cell .slice)) (X (.call 60 [(.slice (some (Addr.mk b0_ 0 none)) 1 1), (.int .i64 112)])) fun (r1_ : (Option Addr × Nat × Nat)) =>
 M.pure (.slice r1_.1 r1_.2.1 r1_.2.2)

theorem e22 (X : Task → M Value) (L : LoopI) (x : (Int) × Unit) : evBody CC { call := X, loop := L } 22 (shsInj [(.cell (.int .u8))] x) = f22 X L x := by kernel_rfl

/-- (*hayrick/logs.Log).Block -/
def f24c0 (X : Task → M Value) (L : LoopI) (b0_ : Nat) (b1_ : Nat) (b2_ : Nat) (x3_ : Option Addr) : M (Value) :=
 M.callS (.one (.cell (.int .i64))) (X (.call 52 [(.pointer x3_), (.func (.func 64) ⟨[]⟩ ⟨[(.pointer (some (Addr.mk b0_ 0 none))), (.pointer (some (Addr.mk b1_ 0 none))), (.pointer (some (Addr.mk b2_ 0 none)))]⟩)])) fun (r4_ : Int) =>
 M.load (.cell .slice) 1 (Addr.mk b2_ 0 none) fun (x5_ : (Option Addr × Nat × Nat)) =>
 M.store (Addr.mk b2_ 0 none) [(.slice x5_.1 x5_.2.1 x5_.2.2)]
 (M.load (.cell .slice) 1 (Addr.mk b2_ 0 none) fun (x6_ : (Option Addr × Nat × Nat)) =>
 M.pure (.tuple ⟨[(.slice x6_.1 x6_.2.1 x6_.2.2), (.int .i64 r4_)]⟩))
def f24 (X : Task → M Value) (L : LoopI) (x : (Option Addr) × (Int) × Unit) : M Value :=
 M.new (.cells (Row.ofList [(.pointer x.1)]) 40 false (0, 0) false) fun b0_ =>
 M.new (.cells (Row.ofList [(.int .u32 x.2.1)]) 31 false (0, 0) false) fun b1_ =>
 M.new (.cells (Row.ofList [(.slice none 0 0)]) 49 false (0, 0) false) fun b2_ =>
 M.load (.cell .ptr) 1 (Addr.mk b0_ 0 none) fun (x3_ : Option Addr) =>
 f24c0 X L b0_ b1_ b2_ x3_

theorem e24 (X : Task → M Value) (L : LoopI) (x : (Option Addr) × (Int) × Unit) : evBody CC { call := X, loop := L } 24 (shsInj [(.cell .ptr), (.cell (.int .u32))] x) = f24 X L x := by kernel_rfl

/-- (*hayrick/stripe.Stripes).Array -/
def f28 (X : Task → M Value) (L : LoopI) (x : (Option Addr) × Unit) : M Value :=
 M.eqPtr x.1 none fun (q0_ : Bool) =>
 M.ite q0_
 (M.pure (.pointer none))
 (M.deref x.1 fun a1_ =>
 M.load (.cell .ptr) 1 (a1_.add 0) fun (x2_ : Option Addr) =>
 M.pure (.pointer x2_))

theorem e28 (X : Task → M Value) (L : LoopI) (x : (Option Addr) × Unit) : evBody CC { call := X, loop := L } 28 (shsInj [(.cell .ptr)] x) = f28 X L x := by kernel_rfl

/-- hayrick/logs.New -/
def f30c0 (X : Task → M Value) (L : LoopI) (x : (Option Addr) × (Int) × ((Option Addr × Nat × Nat)) × ((Option Addr × Nat × Nat)) × Unit) : M (Value) :=
 M.callS (.one (.cell .slice)) (X (.call 75 [(.slice x.2.2.1.1 x.2.2.1.2.1 x.2.2.1.2.2)])) fun (r5_ : (Option Addr × Nat × Nat)) =>
 M.callS (.one (.cell .slice)) (X (.call 73 [(.slice x.2.2.2.1.1 x.2.2.2.1.2.1 x.2.2.2.1.2.2)])) fun (r6_ : (Option Addr × Nat × Nat)) =>
 M.new (.cells (Row.ofList [(.pointer x.1), (.int .u64 x.2.1), (.slice r5_.1 r5_.2.1 r5_.2.2), (.slice r6_.1 r6_.2.1 r6_.2.2), (.int .i64 (-1)), (.slice none 0 0), (.slice none 0 0), (.bool false)]) 113 false (0, 0) false) fun b7_ =>
 M.pure (.tuple ⟨[(.pointer (some (Addr.mk b7_ 0 none))), (.int .i64 0)]⟩)
def f30c1 (X : Task → M Value) (L : LoopI) (x : (Option Addr) × (Int) × ((Option Addr × Nat × Nat)) × ((Option Addr × Nat × Nat)) × Unit) : M (Value) :=
 M.callS (.one (.agg [(.int .i64), (.int .i64), (.int .i64)])) (X (.call 74 [(.pointer x.1)])) fun (r2_ : Int × Int × Int × Unit) =>
 M.join (fun (j3_ : (Bool) × Unit) =>
 M.ite j3_.1
 (M.pure (.tuple ⟨[(.pointer none), (.int .i64 1)]⟩))
 (f30c0 X L x)) fun go4_ =>
 M.ite (x.2.1 == 0)
 (go4_ (true, ()))
 (M.ite (!(((x.2.2.1.2.1 : Nat) : Int) == r2_.2.2.1))
 (go4_ (true, ()))
 (M.callS (.one (.cell .bool)) (X (.call 72 [(.slice x.2.2.2.1.1 x.2.2.2.1.2.1 x.2.2.2.1.2.2), (.int .i64 r2_.2.2.1), (.int .i64 (-1))])) fun (r11_ : Bool) =>
 go4_ ((!r11_), ())))
def f30 (X : Task → M Value) (L : LoopI) (x : (Option Addr) × (Int) × ((Option Addr × Nat × Nat)) × ((Option Addr × Nat × Nat)) × Unit) : M Value :=
 M.callS (.one (.cell .ptr)) (X (.call 28 [(.pointer x.1)])) fun (r0_ : Option Addr) =>
 M.eqPtr r0_ none fun (q1_ : Bool) =>
 M.ite q1_
 (M.pure (.tuple ⟨[(.pointer none), (.int .i64 2)]⟩))
 (f30c1 X L x)

theorem e30 (X : Task → M Value) (L : LoopI) (x : (Option Addr) × (Int) × ((Option Addr × Nat × Nat)) × ((Option Addr × Nat × Nat)) × Unit) : evBody CC { call := X, loop := L } 30 (shsInj [(.cell .ptr), (.cell (.int .u64)), (.cell .slice), (.cell .slice)] x) = f30 X L x := by kernel_rfl

/-- (*hayrick/logs.Log).Stripes -/
def f36 (X : Task → M Value) (L : LoopI) (x : (Option Addr) × Unit) : M Value :=
 M.eqPtr x.1 none fun (q0_ : Bool) =>
 M.ite q0_
 (M.pure (.pointer none))
 (M.deref x.1 fun a1_ =>
 M.load (.cell .ptr) 1 (a1_.add 0) fun (x2_ : Option Addr) =>
 M.pure (.pointer x2_))

theorem e36 (X : Task → M Value) (L : LoopI) (x : (Option Addr) × Unit) : evBody CC { call := X, loop := L } 36 (shsInj [(.cell .ptr)] x) = f36 X L x := by kernel_rfl

/-- hayrick/hayricklaw19.awake -/
def f37c0 (X : Task → M Value) (L : LoopI) (r0_ : (Option Addr) × (Option Addr) × (Option Addr) × (Option Addr) × Unit) (r3_ : (Int × Int × Int × Int × Int × Int × Int × Int × Int × Int × Int × Unit) × (Int) × Unit) (b4_ : Nat) : M (Value) :=
 M.callS (.tuple [(.cell .slice), (.cell (.int .i64))]) (X (.call 40 [(.pointer r0_.1), (.int .i64 2), (.int .i64 199), (.int .i64 5)])) fun (r5_ : ((Option Addr × Nat × Nat)) × (Int) × Unit) =>
 M.join (fun (j6_ : (Bool) × Unit) =>
 M.pure (.bool j6_.1)) fun go7_ =>
 M.ite (r3_.2.1 == 0)
 (M.load (.cell (.int .i64)) 1 ((Addr.mk b4_ 0 none).add 2) fun (x9_ : Int) =>
 M.ite (x9_ == 202)
 (M.ite (r5_.2.1 == 0)
 (M.toStr r5_.1.1 r5_.1.2.1 fun s12_ =>
 go7_ ((seq s12_ st1), ()))
 (go7_ (false, ())))
 (go7_ (false, ())))
 (go7_ (false, ()))
def f37c1 (X : Task → M Value) (L : LoopI) (r0_ : (Option Addr) × (Option Addr) × (Option Addr) × (Option Addr) × Unit) (r3_ : (Int × Int × Int × Int × Int × Int × Int × Int × Int × Int × Int × Unit) × (Int) × Unit) : M (Value) :=
 M.new (.cells (Row.ofList [(.int .i64 0), (.int .i64 0), (.int .i64 0), (.int .i64 0), (.int .u32 0), (.int .u32 0), (.int .u32 0), (.int .u32 0), (.int .u32 0), (.int .u32 0), (.int .u32 0)]) 34 false (0, 0) false) fun b4_ =>
 M.store (Addr.mk b4_ 0 none) [(.int .i64 r3_.1.1), (.int .i64 r3_.1.2.1), (.int .i64 r3_.1.2.2.1), (.int .i64 r3_.1.2.2.2.1), (.int .u32 r3_.1.2.2.2.2.1), (.int .u32 r3_.1.2.2.2.2.2.1), (.int .u32 r3_.1.2.2.2.2.2.2.1), (.int .u32 r3_.1.2.2.2.2.2.2.2.1), (.int .u32 r3_.1.2.2.2.2.2.2.2.2.1), (.int .u32 r3_.1.2.2.2.2.2.2.2.2.2.1), (.int .u32 r3_.1.2.2.2.2.2.2.2.2.2.2.1)]
 (f37c0 X L r0_ r3_ b4_)
def f37c2 (X : Task → M Value) (L : LoopI) (r0_ : (Option Addr) × (Option Addr) × (Option Addr) × (Option Addr) × Unit) (go2_ : ((Bool) × Unit) → M (Value)) (r15_ : Int × Int × Int × Int × Int × Int × Int × Int × Int × Int × Int × Unit) (b16_ : Nat) : M (Value) :=
 M.callS (.one (.cell (.int .i64))) (X (.call 38 [(.pointer r0_.1), (.agg ⟨[(.int .i64 r15_.1), (.int .i64 r15_.2.1), (.int .i64 r15_.2.2.1), (.int .i64 r15_.2.2.2.1), (.int .u32 r15_.2.2.2.2.1), (.int .u32 r15_.2.2.2.2.2.1), (.int .u32 r15_.2.2.2.2.2.2.1), (.int .u32 r15_.2.2.2.2.2.2.2.1), (.int .u32 r15_.2.2.2.2.2.2.2.2.1), (.int .u32 r15_.2.2.2.2.2.2.2.2.2.1), (.int .u32 r15_.2.2.2.2.2.2.2.2.2.2.1)]⟩), (.slice (some (Addr.mk b16_ 0 none)) 3 3), (.bool true)])) fun (r17_ : Int) =>
 M.ite (!(r17_ == 0))
 (go2_ (true, ()))
 (M.new (.cells (Row.ofList [(.int .u8 100), (.int .u8 101)]) 5 false (0, 0) false) fun b19_ =>
 M.mark (Addr.mk b19_ 0 none)
 (M.callS (.one (.cell (.int .i64))) (X (.call 41 [(.pointer r0_.1), (.int .i64 2), (.int .i64 200), (.slice (some (Addr.mk b19_ 0 none)) 2 2), (.bool true)])) fun (r20_ : Int) =>
 go2_ ((!(r20_ == 0)), ())))
def f37c3 (X : Task → M Value) (L : LoopI) (r0_ : (Option Addr) × (Option Addr) × (Option Addr) × (Option Addr) × Unit) (go2_ : ((Bool) × Unit) → M (Value)) : M (Value) :=
 M.eqPtr r0_.1 none fun (q14_ : Bool) =>
 M.ite q14_
 (go2_ (true, ()))
 (M.callS (.one (.agg [(.int .i64), (.int .i64), (.int .i64), (.int .i64), (.int .u32), (.int .u32), (.int .u32), (.int .u32), (.int .u32), (.int .u32), (.int .u32)])) (X (.call 9 [(.int .i64 2)])) fun (r15_ : Int × Int × Int × Int × Int × Int × Int × Int × Int × Int × Int × Unit) =>
 M.new (.cells (Row.ofList [(.int .u8 97), (.int .u8 98), (.int .u8 99)]) 5 false (0, 0) false) fun b16_ =>
 M.mark (Addr.mk b16_ 0 none)
 (f37c2 X L r0_ go2_ r15_ b16_))
def f37c4 (X : Task → M Value) (L : LoopI) : M (Value) :=
 M.callS (.tuple [(.cell .ptr), (.cell .ptr), (.cell .ptr), (.cell .ptr)]) (X (.call 6 [(.int .i64 1), (.int .i64 1), (.int .i64 30)])) fun (r0_ : (Option Addr) × (Option Addr) × (Option Addr) × (Option Addr) × Unit) =>
 M.join (fun (j1_ : (Bool) × Unit) =>
 M.ite j1_.1
 (M.pure (.bool false))
 (M.callS (.tuple [(.agg [(.int .i64), (.int .i64), (.int .i64), (.int .i64), (.int .u32), (.int .u32), (.int .u32), (.int .u32), (.int .u32), (.int .u32), (.int .u32)]), (.cell (.int .i64))]) (X (.call 13 [(.pointer r0_.1), (.int .i64 2)])) fun (r3_ : (Int × Int × Int × Int × Int × Int × Int × Int × Int × Int × Int × Unit) × (Int) × Unit) =>
 f37c1 X L r0_ r3_)) fun go2_ =>
 f37c3 X L r0_ go2_
def f37 (X : Task → M Value) (L : LoopI) (x : Unit) : M Value :=
 f37c4 X L

theorem e37 (X : Task → M Value) (L : LoopI) (x : Unit) : evBody CC { call := X, loop := L } 37 (shsInj [] x) = f37 X L x := by kernel_rfl

/-- hayrick/files.Put -/
def f38c0 (X : Task → M Value) (L : LoopI) (x : (Option Addr) × (Int × Int × Int × Int × Int × Int × Int × Int × Int × Int × Int × Unit) × ((Option Addr × Nat × Nat)) × (Bool) × Unit) (s11_ : ((Option Addr × Nat × Nat)) × (Int) × Unit) (b13_ : Nat) (x17_ : Int) : M ((((Option Addr × Nat × Nat)) × (Int) × Unit) ⊕ ((((Option Addr × Nat × Nat)) × Unit) ⊕ (((Int) × Unit) ⊕ (Unit)))) :=
 M.callS (.tuple [(.cell (.int .u32)), (.cell (.int .i64))]) (X (.call 16 [(.pointer x.1), (.int .i64 x17_), (.int .i64 s11_.2.1), (.slice (some (Addr.mk b13_ 0 none)) (Int.toNat 112) (Int.toNat 112)), (.bool false)])) fun (r18_ : (Int) × (Int) × Unit) =>
 M.ite (!(r18_.2.1 == 0))
 (M.pure (.inr (.inr (.inl (r18_.2.1, ())))))
 (M.new (.cells (Row.ofList [(.int .u32 r18_.1)]) 31 false (0, 0) false) fun b20_ =>
 M.append 31 1 4 s11_.1.1 s11_.1.2.1 s11_.1.2.2 (.slice (some (Addr.mk b20_ 0 none)) 1 1) fun a21_ n22_ c23_ =>
 M.pure (.inl ((a21_, n22_, c23_), (IntKind.i64.wrap (s11_.2.1 + 1)), ())))
def f38c1 (X : Task → M Value) (L : LoopI) (x : (Option Addr) × (Int × Int × Int × Int × Int × Int × Int × Int × Int × Int × Int × Unit) × ((Option Addr × Nat × Nat)) × (Bool) × Unit) (b0_ : Nat) (s11_ : ((Option Addr × Nat × Nat)) × (Int) × Unit) : M ((((Option Addr × Nat × Nat)) × (Int) × Unit) ⊕ ((((Option Addr × Nat × Nat)) × Unit) ⊕ (((Int) × Unit) ⊕ (Unit)))) :=
 M.guard (decide (0 ≤ 112) && decide (112 ≤ 112) && decide ((1 : Int) * 112 ≤ 2 ^ 48))
 (M.new (.cells (Row.rep [(.int .u8 0)] (Int.toNat 112)) 5 false (0, 0) false) fun b13_ =>
 let v14_ : Int := IntKind.i64.wrap (s11_.2.1 * 112)
 M.guard (decide (0 ≤ v14_) && decide (v14_ ≤ ((x.2.2.1.2.1 : Nat) : Int)))
 (let v15_ : Nat := (Int.toNat v14_)
 M.copy 1 (some (Addr.mk b13_ 0 none)) (Int.toNat 112) (.slice (x.2.2.1.1.map (·.add (v15_ * 1))) (x.2.2.1.2.1 - v15_) (x.2.2.1.2.2 - v15_)) fun m16_ =>
 M.load (.cell (.int .i64)) 1 ((Addr.mk b0_ 0 none).add 0) fun (x17_ : Int) =>
 f38c0 X L x s11_ b13_ x17_))
def f38c2 (X : Task → M Value) (L : LoopI) (x : (Option Addr) × (Int × Int × Int × Int × Int × Int × Int × Int × Int × Int × Int × Unit) × ((Option Addr × Nat × Nat)) × (Bool) × Unit) (j25_ : ((Option Addr × Nat × Nat)) × Unit) (x26_ : Int × Int × Int × Int × Int × Int × Int × Int × Int × Int × Int × Unit) : M (Value) :=
 M.callS (.one (.cell (.int .i64))) (X (.call 79 [(.pointer x.1), (.agg ⟨[(.int .i64 x26_.1), (.int .i64 x26_.2.1), (.int .i64 x26_.2.2.1), (.int .i64 x26_.2.2.2.1), (.int .u32 x26_.2.2.2.2.1), (.int .u32 x26_.2.2.2.2.2.1), (.int .u32 x26_.2.2.2.2.2.2.1), (.int .u32 x26_.2.2.2.2.2.2.2.1), (.int .u32 x26_.2.2.2.2.2.2.2.2.1), (.int .u32 x26_.2.2.2.2.2.2.2.2.2.1), (.int .u32 x26_.2.2.2.2.2.2.2.2.2.2.1)]⟩), (.slice j25_.1.1 j25_.1.2.1 j25_.1.2.2), (.bool x.2.2.2.1)])) fun (r27_ : Int) =>
 M.pure (.int .i64 r27_)
def f38c3 (X : Task → M Value) (L : LoopI) (x : (Option Addr) × (Int × Int × Int × Int × Int × Int × Int × Int × Int × Int × Int × Unit) × ((Option Addr × Nat × Nat)) × (Bool) × Unit) (b0_ : Nat) (r10_ : Int) : M (Value) :=
 M.bind (L (σ := ((Option Addr × Nat × Nat)) × (Int) × Unit) (ρ := (((Option Addr × Nat × Nat)) × Unit) ⊕ (((Int) × Unit) ⊕ (Unit))) (fun s11_ =>
 M.ite (decide (s11_.2.1 < r10_))
 (f38c1 X L x b0_ s11_)
 (M.pure (.inr (.inl (s11_.1, ()))))) ((none, 0, 0), 0, ())) <| M.sum (fun (j25_ : ((Option Addr × Nat × Nat)) × Unit) =>
 M.load (.agg [(.int .i64), (.int .i64), (.int .i64), (.int .i64), (.int .u32), (.int .u32), (.int .u32), (.int .u32), (.int .u32), (.int .u32), (.int .u32)]) 11 (Addr.mk b0_ 0 none) fun (x26_ : Int × Int × Int × Int × Int × Int × Int × Int × Int × Int × Int × Unit) =>
 f38c2 X L x j25_ x26_) (M.sum (fun (j28_ : (Int) × Unit) =>
 M.pure (.int .i64 j28_.1)) (fun _ => M.stuck))
def f38c4 (X : Task → M Value) (L : LoopI) (x : (Option Addr) × (Int × Int × Int × Int × Int × Int × Int × Int × Int × Int × Int × Unit) × ((Option Addr × Nat × Nat)) × (Bool) × Unit) (b0_ : Nat) (x6_ : Int × Int × Int × Int × Int × Int × Int × Int × Int × Int × Int × Unit) : M (Value) :=
 M.callS (.one (.cell .bool)) (X (.call 46 [(.agg ⟨[(.int .i64 x6_.1), (.int .i64 x6_.2.1), (.int .i64 x6_.2.2.1), (.int .i64 x6_.2.2.2.1), (.int .u32 x6_.2.2.2.2.1), (.int .u32 x6_.2.2.2.2.2.1), (.int .u32 x6_.2.2.2.2.2.2.1), (.int .u32 x6_.2.2.2.2.2.2.2.1), (.int .u32 x6_.2.2.2.2.2.2.2.2.1), (.int .u32 x6_.2.2.2.2.2.2.2.2.2.1), (.int .u32 x6_.2.2.2.2.2.2.2.2.2.2.1)]⟩)])) fun (r7_ : Bool) =>
 M.ite (!r7_)
 (M.pure (.int .i64 1))
 (M.callS (.one (.cell (.int .i64))) (X (.call 78 [(.int .i64 ((x.2.2.1.2.1 : Nat) : Int))])) fun (r10_ : Int) =>
 f38c3 X L x b0_ r10_)
def f38c5 (X : Task → M Value) (L : LoopI) (x : (Option Addr) × (Int × Int × Int × Int × Int × Int × Int × Int × Int × Int × Int × Unit) × ((Option Addr × Nat × Nat)) × (Bool) × Unit) (b0_ : Nat) (r5_ : Int × Int × Int × Int × Int × Int × Int × Int × Int × Int × Int × Unit) : M (Value) :=
 M.store (Addr.mk b0_ 0 none) [(.int .i64 r5_.1), (.int .i64 r5_.2.1), (.int .i64 r5_.2.2.1), (.int .i64 r5_.2.2.2.1), (.int .u32 r5_.2.2.2.2.1), (.int .u32 r5_.2.2.2.2.2.1), (.int .u32 r5_.2.2.2.2.2.2.1), (.int .u32 r5_.2.2.2.2.2.2.2.1), (.int .u32 r5_.2.2.2.2.2.2.2.2.1), (.int .u32 r5_.2.2.2.2.2.2.2.2.2.1), (.int .u32 r5_.2.2.2.2.2.2.2.2.2.2.1)]
 (M.load (.agg [(.int .i64), (.int .i64), (.int .i64), (.int .i64), (.int .u32), (.int .u32), (.int .u32), (.int .u32), (.int .u32), (.int .u32), (.int .u32)]) 11 (Addr.mk b0_ 0 none) fun (x6_ : Int × Int × Int × Int × Int × Int × Int × Int × Int × Int × Int × Unit) =>
 f38c4 X L x b0_ x6_)
def f38c6 (X : Task → M Value) (L : LoopI) (x : (Option Addr) × (Int × Int × Int × Int × Int × Int × Int × Int × Int × Int × Int × Unit) × ((Option Addr × Nat × Nat)) × (Bool) × Unit) (b0_ : Nat) (x3_ : Int × Int × Int × Int × Int × Int × Int × Int × Int × Int × Int × Unit) (v4_ : Int) : M (Value) :=
 M.callS (.one (.agg [(.int .i64), (.int .i64), (.int .i64), (.int .i64), (.int .u32), (.int .u32), (.int .u32), (.int .u32), (.int .u32), (.int .u32), (.int .u32)])) (X (.call 77 [(.agg ⟨[(.int .i64 x3_.1), (.int .i64 x3_.2.1), (.int .i64 x3_.2.2.1), (.int .i64 x3_.2.2.2.1), (.int .u32 x3_.2.2.2.2.1), (.int .u32 x3_.2.2.2.2.2.1), (.int .u32 x3_.2.2.2.2.2.2.1), (.int .u32 x3_.2.2.2.2.2.2.2.1), (.int .u32 x3_.2.2.2.2.2.2.2.2.1), (.int .u32 x3_.2.2.2.2.2.2.2.2.2.1), (.int .u32 x3_.2.2.2.2.2.2.2.2.2.2.1)]⟩), (.int .i64 v4_)])) fun (r5_ : Int × Int × Int × Int × Int × Int × Int × Int × Int × Int × Int × Unit) =>
 f38c5 X L x b0_ r5_
def f38c7 (X : Task → M Value) (L : LoopI) (x : (Option Addr) × (Int × Int × Int × Int × Int × Int × Int × Int × Int × Int × Int × Unit) × ((Option Addr × Nat × Nat)) × (Bool) × Unit) : M (Value) :=
 M.new (.cells (Row.ofList [(.int .i64 x.2.1.1), (.int .i64 x.2.1.2.1), (.int .i64 x.2.1.2.2.1), (.int .i64 x.2.1.2.2.2.1), (.int .u32 x.2.1.2.2.2.2.1), (.int .u32 x.2.1.2.2.2.2.2.1), (.int .u32 x.2.1.2.2.2.2.2.2.1), (.int .u32 x.2.1.2.2.2.2.2.2.2.1), (.int .u32 x.2.1.2.2.2.2.2.2.2.2.1), (.int .u32 x.2.1.2.2.2.2.2.2.2.2.2.1), (.int .u32 x.2.1.2.2.2.2.2.2.2.2.2.2.1)]) 34 false (0, 0) false) fun b0_ =>
 M.callS (.one (.cell .ptr)) (X (.call 12 [(.pointer x.1)])) fun (r1_ : Option Addr) =>
 M.eqPtr r1_ none fun (q2_ : Bool) =>
 M.ite q2_
 (M.pure (.int .i64 2))
 (M.load (.agg [(.int .i64), (.int .i64), (.int .i64), (.int .i64), (.int .u32), (.int .u32), (.int .u32), (.int .u32), (.int .u32), (.int .u32), (.int .u32)]) 11 (Addr.mk b0_ 0 none) fun (x3_ : Int × Int × Int × Int × Int × Int × Int × Int × Int × Int × Int × Unit) =>
 f38c6 X L x b0_ x3_ ((x.2.2.1.2.1 : Nat) : Int))
def f38 (X : Task → M Value) (L : LoopI) (x : (Option Addr) × (Int × Int × Int × Int × Int × Int × Int × Int × Int × Int × Int × Unit) × ((Option Addr × Nat × Nat)) × (Bool) × Unit) : M Value :=
 f38c7 X L x

theorem e38 (X : Task → M Value) (L : LoopI) (x : (Option Addr) × (Int × Int × Int × Int × Int × Int × Int × Int × Int × Int × Int × Unit) × ((Option Addr × Nat × Nat)) × (Bool) × Unit) : evBody CC { call := X, loop := L } 38 (shsInj [(.cell .ptr), (.agg [(.int .i64), (.int .i64), (.int .i64), (.int .i64), (.int .u32), (.int .u32), (.int .u32), (.int .u32), (.int .u32), (.int .u32), (.int .u32)]), (.cell .slice), (.cell .bool)] x) = f38 X L x := by kernel_rfl

/-- hayrick/files.Truncate -/
def f39c0 (X : Task → M Value) (L : LoopI) (x : (Option Addr) × (Int) × (Int) × (Bool) × Unit) (b0_ : Nat) (b1_ : Nat) (b2_ : Nat) : M (Value) :=
 M.new (.cells (Row.ofList [(.bool x.2.2.2.1)]) 4 false (0, 0) false) fun b3_ =>
 M.load (.cell .ptr) 1 (Addr.mk b0_ 0 none) fun (x4_ : Option Addr) =>
 M.load (.cell (.int .i64)) 1 (Addr.mk b1_ 0 none) fun (x5_ : Int) =>
 M.callS (.one (.cell (.int .i64))) (X (.call 80 [(.pointer x4_), (.int .i64 x5_), (.func (.func 81) ⟨[]⟩ ⟨[(.pointer (some (Addr.mk b2_ 0 none))), (.pointer (some (Addr.mk b0_ 0 none))), (.pointer (some (Addr.mk b1_ 0 none))), (.pointer (some (Addr.mk b3_ 0 none)))]⟩)])) fun (r6_ : Int) =>
 M.pure (.int .i64 r6_)
def f39 (X : Task → M Value) (L : LoopI) (x : (Option Addr) × (Int) × (Int) × (Bool) × Unit) : M Value :=
 M.new (.cells (Row.ofList [(.pointer x.1)]) 22 false (0, 0) false) fun b0_ =>
 M.new (.cells (Row.ofList [(.int .i64 x.2.1)]) 3 false (0, 0) false) fun b1_ =>
 M.new (.cells (Row.ofList [(.int .i64 x.2.2.1)]) 3 false (0, 0) false) fun b2_ =>
 f39c0 X L x b0_ b1_ b2_

theorem e39 (X : Task → M Value) (L : LoopI) (x : (Option Addr) × (Int) × (Int) × (Bool) × Unit) : evBody CC { call := X, loop := L } 39 (shsInj [(.cell .ptr), (.cell (.int .i64)), (.cell (.int .i64)), (.cell .bool)] x) = f39 X L x := by kernel_rfl

/-- hayrick/files.Read -/
def f40c0 (X : Task → M Value) (L : LoopI) (x : (Option Addr) × (Int) × (Int) × (Int) × Unit) (b0_ : Nat) (b1_ : Nat) (b2_ : Nat) (b3_ : Nat) (x4_ : Option Addr) : M (Value) :=
 M.callS (.one (.cell (.int .i64))) (X (.call 80 [(.pointer x4_), (.int .i64 x.2.1), (.func (.func 84) ⟨[]⟩ ⟨[(.pointer (some (Addr.mk b1_ 0 none))), (.pointer (some (Addr.mk b2_ 0 none))), (.pointer (some (Addr.mk b0_ 0 none))), (.pointer (some (Addr.mk b3_ 0 none)))]⟩)])) fun (r5_ : Int) =>
 M.load (.cell .slice) 1 (Addr.mk b3_ 0 none) fun (x6_ : (Option Addr × Nat × Nat)) =>
 M.store (Addr.mk b3_ 0 none) [(.slice x6_.1 x6_.2.1 x6_.2.2)]
 (M.load (.cell .slice) 1 (Addr.mk b3_ 0 none) fun (x7_ : (Option Addr × Nat × Nat)) =>
 M.pure (.tuple ⟨[(.slice x7_.1 x7_.2.1 x7_.2.2), (.int .i64 r5_)]⟩))
def f40 (X : Task → M Value) (L : LoopI) (x : (Option Addr) × (Int) × (Int) × (Int) × Unit) : M Value :=
 M.new (.cells (Row.ofList [(.pointer x.1)]) 22 false (0, 0) false) fun b0_ =>
 M.new (.cells (Row.ofList [(.int .i64 x.2.2.1)]) 3 false (0, 0) false) fun b1_ =>
 M.new (.cells (Row.ofList [(.int .i64 x.2.2.2.1)]) 3 false (0, 0) false) fun b2_ =>
 M.new (.cells (Row.ofList [(.slice none 0 0)]) 49 false (0, 0) false) fun b3_ =>
 M.load (.cell .ptr) 1 (Addr.mk b0_ 0 none) fun (x4_ : Option Addr) =>
 f40c0 X L x b0_ b1_ b2_ b3_ x4_

theorem e40 (X : Task → M Value) (L : LoopI) (x : (Option Addr) × (Int) × (Int) × (Int) × Unit) : evBody CC { call := X, loop := L } 40 (shsInj [(.cell .ptr), (.cell (.int .i64)), (.cell (.int .i64)), (.cell (.int .i64))] x) = f40 X L x := by kernel_rfl

/-- hayrick/files.Write -/
def f41c0 (X : Task → M Value) (L : LoopI) (x : (Option Addr) × (Int) × (Int) × ((Option Addr × Nat × Nat)) × (Bool) × Unit) (b0_ : Nat) (b1_ : Nat) (b2_ : Nat) (b3_ : Nat) : M (Value) :=
 M.new (.cells (Row.ofList [(.bool x.2.2.2.2.1)]) 4 false (0, 0) false) fun b4_ =>
 M.load (.cell .ptr) 1 (Addr.mk b0_ 0 none) fun (x5_ : Option Addr) =>
 M.load (.cell (.int .i64)) 1 (Addr.mk b1_ 0 none) fun (x6_ : Int) =>
 M.callS (.one (.cell (.int .i64))) (X (.call 80 [(.pointer x5_), (.int .i64 x6_), (.func (.func 86) ⟨[]⟩ ⟨[(.pointer (some (Addr.mk b2_ 0 none))), (.pointer (some (Addr.mk b3_ 0 none))), (.pointer (some (Addr.mk b0_ 0 none))), (.pointer (some (Addr.mk b1_ 0 none))), (.pointer (some (Addr.mk b4_ 0 none)))]⟩)])) fun (r7_ : Int) =>
 M.pure (.int .i64 r7_)
def f41 (X : Task → M Value) (L : LoopI) (x : (Option Addr) × (Int) × (Int) × ((Option Addr × Nat × Nat)) × (Bool) × Unit) : M Value :=
 M.new (.cells (Row.ofList [(.pointer x.1)]) 22 false (0, 0) false) fun b0_ =>
 M.new (.cells (Row.ofList [(.int .i64 x.2.1)]) 3 false (0, 0) false) fun b1_ =>
 M.new (.cells (Row.ofList [(.int .i64 x.2.2.1)]) 3 false (0, 0) false) fun b2_ =>
 M.new (.cells (Row.ofList [(.slice x.2.2.2.1.1 x.2.2.2.1.2.1 x.2.2.2.1.2.2)]) 49 false (0, 0) false) fun b3_ =>
 f41c0 X L x b0_ b1_ b2_ b3_

theorem e41 (X : Task → M Value) (L : LoopI) (x : (Option Addr) × (Int) × (Int) × ((Option Addr × Nat × Nat)) × (Bool) × Unit) : evBody CC { call := X, loop := L } 41 (shsInj [(.cell .ptr), (.cell (.int .i64)), (.cell (.int .i64)), (.cell .slice), (.cell .bool)] x) = f41 X L x := by kernel_rfl

/-- hayrick/files.Copy -/
def f42c0 (X : Task → M Value) (L : LoopI) (x : (Option Addr) × (Int) × (Bool) × Unit) (b0_ : Nat) : M (Value) :=
 M.new (.cells (Row.ofList [(.int .i64 x.2.1)]) 3 false (0, 0) false) fun b1_ =>
 M.new (.cells (Row.ofList [(.bool x.2.2.1)]) 4 false (0, 0) false) fun b2_ =>
 M.load (.cell .ptr) 1 (Addr.mk b0_ 0 none) fun (x3_ : Option Addr) =>
 M.load (.cell (.int .i64)) 1 (Addr.mk b1_ 0 none) fun (x4_ : Int) =>
 M.callS (.one (.cell (.int .i64))) (X (.call 80 [(.pointer x3_), (.int .i64 x4_), (.func (.func 87) ⟨[]⟩ ⟨[(.pointer (some (Addr.mk b0_ 0 none))), (.pointer (some (Addr.mk b1_ 0 none))), (.pointer (some (Addr.mk b2_ 0 none)))]⟩)])) fun (r5_ : Int) =>
 M.pure (.int .i64 r5_)
def f42 (X : Task → M Value) (L : LoopI) (x : (Option Addr) × (Int) × (Bool) × Unit) : M Value :=
 M.new (.cells (Row.ofList [(.pointer x.1)]) 22 false (0, 0) false) fun b0_ =>
 f42c0 X L x b0_

theorem e42 (X : Task → M Value) (L : LoopI) (x : (Option Addr) × (Int) × (Bool) × Unit) : evBody CC { call := X, loop := L } 42 (shsInj [(.cell .ptr), (.cell (.int .i64)), (.cell .bool)] x) = f42 X L x := by kernel_rfl

/-- (*hayrick/store.Store).put -/
def f43c0 (X : Task → M Value) (L : LoopI) (r6_ : ((Option Addr × Nat × Nat)) × (Int) × Unit) (b13_ : Nat) (a14_ : Addr) : M (Value) :=
 M.load (.cell .ptr) 1 (a14_.add 0) fun (x15_ : Option Addr) =>
 M.load (.agg [(.int .i64), .bool, (.int .i64), (.int .i64)]) 4 (Addr.mk b13_ 0 none) fun (x16_ : Int × Bool × Int × Int × Unit) =>
 M.callS (.tuple [(.cell (.int .u32)), (.cell (.int .i64))]) (X (.call 21 [(.pointer x15_), (.agg ⟨[(.int .i64 x16_.1), (.bool x16_.2.1), (.int .i64 x16_.2.2.1), (.int .i64 x16_.2.2.2.1)]⟩), (.slice r6_.1.1 r6_.1.2.1 r6_.1.2.2)])) fun (r17_ : (Int) × (Int) × Unit) =>
 M.pure (.tuple ⟨[(.int .u32 r17_.1), (.int .i64 r17_.2.1)]⟩)
def f43c1 (X : Task → M Value) (L : LoopI) (x : (Option Addr) × (Value) × (Bool) × Unit) (r6_ : ((Option Addr × Nat × Nat)) × (Int) × Unit) : M (Value) :=
 match x.2.1 with
 | .iface t8_ y9_ => M.need (methodA CC t8_ "hayrick/store.record") fun f10_ => callF CC ⟨X, L⟩ f10_ (y9_ :: []) fun w11_ => M.need (RSh.prj (.one (.agg [(.int .i64), .bool, (.int .i64), (.int .i64)])) w11_) fun (r12_ : Int × Bool × Int × Int × Unit) =>
 (M.new (.cells (Row.ofList [(.int .i64 0), (.bool false), (.int .i64 0), (.int .i64 0)]) 58 false (0, 0) false) fun b13_ =>
 M.store (Addr.mk b13_ 0 none) [(.int .i64 r12_.1), (.bool r12_.2.1), (.int .i64 r12_.2.2.1), (.int .i64 r12_.2.2.2.1)]
 (M.store ((Addr.mk b13_ 0 none).add 1) [(.bool x.2.2.1)]
 (M.deref x.1 fun a14_ =>
 f43c0 X L r6_ b13_ a14_)))
 | _ => M.stuck
def f43c2 (X : Task → M Value) (L : LoopI) (x : (Option Addr) × (Value) × (Bool) × Unit) : M (Value) :=
 M.callS (.one (.cell (.int .i64))) (X (.call 44 [(.pointer x.1), (.int .i64 1)])) fun (r0_ : Int) =>
 M.ite (!(r0_ == 0))
 (M.pure (.tuple ⟨[(.int .u32 0), (.int .i64 r0_)]⟩))
 (match x.2.1 with
 | .iface t2_ y3_ => M.need (methodA CC t2_ "hayrick/store.block") fun f4_ => callF CC ⟨X, L⟩ f4_ (y3_ :: []) fun w5_ => M.need (RSh.prj (.tuple [(.cell .slice), (.cell (.int .i64))]) w5_) fun (r6_ : ((Option Addr × Nat × Nat)) × (Int) × Unit) =>
 (M.ite (!(r6_.2.1 == 0))
 (M.pure (.tuple ⟨[(.int .u32 0), (.int .i64 r6_.2.1)]⟩))
 (f43c1 X L x r6_))
 | _ => M.stuck)
def f43 (X : Task → M Value) (L : LoopI) (x : (Option Addr) × (Value) × (Bool) × Unit) : M Value :=
 f43c2 X L x

theorem e43 (X : Task → M Value) (L : LoopI) (x : (Option Addr) × (Value) × (Bool) × Unit) : evBody CC { call := X, loop := L } 43 (shsInj [(.cell .ptr), (.cell .val), (.cell .bool)] x) = f43 X L x := by kernel_rfl

/-- (*hayrick/store.Store).right -/
def f44 (X : Task → M Value) (L : LoopI) (x : (Option Addr) × (Int) × Unit) : M Value :=
 M.join (fun (j0_ : (Bool) × Unit) =>
 M.ite j0_.1
 (M.pure (.int .i64 2))
 (M.join (fun (j2_ : (Bool) × Unit) =>
 M.ite j2_.1
 (M.pure (.int .i64 1))
 (M.pure (.int .i64 0))) fun go3_ =>
 M.ite (decide (x.2.1 < 1))
 (go3_ (true, ()))
 (go3_ ((decide (x.2.1 > 64)), ())))) fun go1_ =>
 M.eqPtr x.1 none fun (q6_ : Bool) =>
 M.ite q6_
 (go1_ (true, ()))
 (M.deref x.1 fun a7_ =>
 M.load (.cell .ptr) 1 (a7_.add 0) fun (x8_ : Option Addr) =>
 M.eqPtr x8_ none fun (q9_ : Bool) =>
 go1_ (q9_, ()))

theorem e44 (X : Task → M Value) (L : LoopI) (x : (Option Addr) × (Int) × Unit) : evBody CC { call := X, loop := L } 44 (shsInj [(.cell .ptr), (.cell (.int .i64))] x) = f44 X L x := by kernel_rfl

/-- hayrick/inode.Take -/
def f45c0 (X : Task → M Value) (L : LoopI) (b0_ : Nat) : M (Value) :=
 M.load (.agg [(.int .i64), (.int .i64), (.int .i64), (.int .i64), (.int .u32), (.int .u32), (.int .u32), (.int .u32), (.int .u32), (.int .u32), (.int .u32)]) 11 (Addr.mk b0_ 0 none) fun (x3_ : Int × Int × Int × Int × Int × Int × Int × Int × Int × Int × Int × Unit) =>
 M.pure (.tuple ⟨[(.agg ⟨[(.int .i64 x3_.1), (.int .i64 x3_.2.1), (.int .i64 x3_.2.2.1), (.int .i64 x3_.2.2.2.1), (.int .u32 x3_.2.2.2.2.1), (.int .u32 x3_.2.2.2.2.2.1), (.int .u32 x3_.2.2.2.2.2.2.1), (.int .u32 x3_.2.2.2.2.2.2.2.1), (.int .u32 x3_.2.2.2.2.2.2.2.2.1), (.int .u32 x3_.2.2.2.2.2.2.2.2.2.1), (.int .u32 x3_.2.2.2.2.2.2.2.2.2.2.1)]⟩), (.int .i64 4)]⟩)
def f45c1 (X : Task → M Value) (L : LoopI) (b0_ : Nat) : M (Value) :=
 M.load (.agg [(.int .i64), (.int .i64), (.int .i64), (.int .i64), (.int .u32), (.int .u32), (.int .u32), (.int .u32), (.int .u32), (.int .u32), (.int .u32)]) 11 (Addr.mk b0_ 0 none) fun (x6_ : Int × Int × Int × Int × Int × Int × Int × Int × Int × Int × Int × Unit) =>
 M.pure (.tuple ⟨[(.agg ⟨[(.int .i64 x6_.1), (.int .i64 x6_.2.1), (.int .i64 x6_.2.2.1), (.int .i64 x6_.2.2.2.1), (.int .u32 x6_.2.2.2.2.1), (.int .u32 x6_.2.2.2.2.2.1), (.int .u32 x6_.2.2.2.2.2.2.1), (.int .u32 x6_.2.2.2.2.2.2.2.1), (.int .u32 x6_.2.2.2.2.2.2.2.2.1), (.int .u32 x6_.2.2.2.2.2.2.2.2.2.1), (.int .u32 x6_.2.2.2.2.2.2.2.2.2.2.1)]⟩), (.int .i64 3)]⟩)
def f45c2 (X : Task → M Value) (L : LoopI) (b0_ : Nat) : M (Value) :=
 M.load (.agg [(.int .i64), (.int .i64), (.int .i64), (.int .i64), (.int .u32), (.int .u32), (.int .u32), (.int .u32), (.int .u32), (.int .u32), (.int .u32)]) 11 (Addr.mk b0_ 0 none) fun (x25_ : Int × Int × Int × Int × Int × Int × Int × Int × Int × Int × Int × Unit) =>
 M.pure (.tuple ⟨[(.agg ⟨[(.int .i64 x25_.1), (.int .i64 x25_.2.1), (.int .i64 x25_.2.2.1), (.int .i64 x25_.2.2.2.1), (.int .u32 x25_.2.2.2.2.1), (.int .u32 x25_.2.2.2.2.2.1), (.int .u32 x25_.2.2.2.2.2.2.1), (.int .u32 x25_.2.2.2.2.2.2.2.1), (.int .u32 x25_.2.2.2.2.2.2.2.2.1), (.int .u32 x25_.2.2.2.2.2.2.2.2.2.1), (.int .u32 x25_.2.2.2.2.2.2.2.2.2.2.1)]⟩), (.int .i64 5)]⟩)
def f45c3 (X : Task → M Value) (L : LoopI) (b0_ : Nat) : M (Value) :=
 M.load (.agg [(.int .i64), (.int .i64), (.int .i64), (.int .i64), (.int .u32), (.int .u32), (.int .u32), (.int .u32), (.int .u32), (.int .u32), (.int .u32)]) 11 (Addr.mk b0_ 0 none) fun (x27_ : Int × Int × Int × Int × Int × Int × Int × Int × Int × Int × Int × Unit) =>
 M.pure (.tuple ⟨[(.agg ⟨[(.int .i64 x27_.1), (.int .i64 x27_.2.1), (.int .i64 x27_.2.2.1), (.int .i64 x27_.2.2.2.1), (.int .u32 x27_.2.2.2.2.1), (.int .u32 x27_.2.2.2.2.2.1), (.int .u32 x27_.2.2.2.2.2.2.1), (.int .u32 x27_.2.2.2.2.2.2.2.1), (.int .u32 x27_.2.2.2.2.2.2.2.2.1), (.int .u32 x27_.2.2.2.2.2.2.2.2.2.1), (.int .u32 x27_.2.2.2.2.2.2.2.2.2.2.1)]⟩), (.int .i64 0)]⟩)
def f45c4 (X : Task → M Value) (L : LoopI) (b0_ : Nat) (b12_ : Nat) : M (Value) :=
 M.load (.agg [(.int .i64), (.int .i64), (.int .i64), (.int .i64), (.int .u32), (.int .u32), (.int .u32), (.int .u32), (.int .u32), (.int .u32), (.int .u32)]) 11 (Addr.mk b12_ 0 none) fun (x26_ : Int × Int × Int × Int × Int × Int × Int × Int × Int × Int × Int × Unit) =>
 M.store (Addr.mk b0_ 0 none) [(.int .i64 x26_.1), (.int .i64 x26_.2.1), (.int .i64 x26_.2.2.1), (.int .i64 x26_.2.2.2.1), (.int .u32 x26_.2.2.2.2.1), (.int .u32 x26_.2.2.2.2.2.1), (.int .u32 x26_.2.2.2.2.2.2.1), (.int .u32 x26_.2.2.2.2.2.2.2.1), (.int .u32 x26_.2.2.2.2.2.2.2.2.1), (.int .u32 x26_.2.2.2.2.2.2.2.2.2.1), (.int .u32 x26_.2.2.2.2.2.2.2.2.2.2.1)]
 (f45c3 X L b0_)
def f45c5 (X : Task → M Value) (L : LoopI) (x : ((Option Addr × Nat × Nat)) × Unit) (b0_ : Nat) (b12_ : Nat) (r22_ : ((Option Addr × Nat × Nat)) × (Int) × Unit) : M (Value) :=
 M.join (fun (j23_ : (Bool) × Unit) =>
 M.ite j23_.1
 (M.store (Addr.mk b0_ 0 none) [(.int .i64 0), (.int .i64 0), (.int .i64 0), (.int .i64 0), (.int .u32 0), (.int .u32 0), (.int .u32 0), (.int .u32 0), (.int .u32 0), (.int .u32 0), (.int .u32 0)]
 (f45c2 X L b0_))
 (f45c4 X L b0_ b12_)) fun go24_ =>
 M.ite (!(r22_.2.1 == 0))
 (go24_ (true, ()))
 (M.callS (.one (.cell .bool)) (X (.call 90 [(.slice r22_.1.1 r22_.1.2.1 r22_.1.2.2), (.slice x.1.1 x.1.2.1 x.1.2.2)])) fun (r29_ : Bool) =>
 go24_ ((!r29_), ()))
def f45c6 (X : Task → M Value) (L : LoopI) (x : ((Option Addr × Nat × Nat)) × Unit) (b0_ : Nat) (b12_ : Nat) : M (Value) :=
 M.load (.agg [(.int .i64), (.int .i64), (.int .i64), (.int .i64), (.int .u32), (.int .u32), (.int .u32), (.int .u32), (.int .u32), (.int .u32), (.int .u32)]) 11 (Addr.mk b12_ 0 none) fun (x21_ : Int × Int × Int × Int × Int × Int × Int × Int × Int × Int × Int × Unit) =>
 M.callS (.tuple [(.cell .slice), (.cell (.int .i64))]) (X (.call 89 [(.agg ⟨[(.int .i64 x21_.1), (.int .i64 x21_.2.1), (.int .i64 x21_.2.2.1), (.int .i64 x21_.2.2.2.1), (.int .u32 x21_.2.2.2.2.1), (.int .u32 x21_.2.2.2.2.2.1), (.int .u32 x21_.2.2.2.2.2.2.1), (.int .u32 x21_.2.2.2.2.2.2.2.1), (.int .u32 x21_.2.2.2.2.2.2.2.2.1), (.int .u32 x21_.2.2.2.2.2.2.2.2.2.1), (.int .u32 x21_.2.2.2.2.2.2.2.2.2.2.1)]⟩)])) fun (r22_ : ((Option Addr × Nat × Nat)) × (Int) × Unit) =>
 f45c5 X L x b0_ b12_ r22_
def f45c7 (X : Task → M Value) (L : LoopI) (x : ((Option Addr × Nat × Nat)) × Unit) (b0_ : Nat) (b7_ : Nat) (b12_ : Nat) : M (Value) :=
 M.bind (L (σ := (Int) × Unit) (ρ := (Unit) ⊕ (Unit)) (fun s13_ =>
 M.ite (decide (s13_.1 < 6))
 (M.callS (.one (.cell (.int .i64))) (X (.call 88 [(.int .i64 4), (.pointer (some (Addr.mk b7_ 0 none)))])) fun (r15_ : Int) =>
 M.guard (decide (0 ≤ s13_.1) && decide (s13_.1 < ((6 : Nat) : Int)))
 (M.store (((Addr.mk b12_ 0 none).add 4).add ((Int.toNat s13_.1) * 1)) [(.int .u32 (IntKind.u32.wrap r15_))]
 (M.pure (.inl ((IntKind.i64.wrap (s13_.1 + 1)), ())))))
 (M.pure (.inr (.inl (()))))) (0, ())) <| M.sum (fun (j18_ : Unit) =>
 M.callS (.one (.cell (.int .i64))) (X (.call 88 [(.int .i64 4), (.pointer (some (Addr.mk b7_ 0 none)))])) fun (r19_ : Int) =>
 M.store ((Addr.mk b12_ 0 none).add 10) [(.int .u32 (IntKind.u32.wrap r19_))]
 (f45c6 X L x b0_ b12_)) (fun _ => M.stuck)
def f45c8 (X : Task → M Value) (L : LoopI) (x : ((Option Addr × Nat × Nat)) × Unit) (b0_ : Nat) (b7_ : Nat) (r8_ : Int) (r9_ : Int) (r10_ : Int) : M (Value) :=
 M.callS (.one (.cell (.int .i64))) (X (.call 88 [(.int .i64 2), (.pointer (some (Addr.mk b7_ 0 none)))])) fun (r11_ : Int) =>
 M.new (.cells (Row.ofList [(.int .i64 0), (.int .i64 0), (.int .i64 0), (.int .i64 0), (.int .u32 0), (.int .u32 0), (.int .u32 0), (.int .u32 0), (.int .u32 0), (.int .u32 0), (.int .u32 0)]) 34 false (0, 0) false) fun b12_ =>
 M.store (Addr.mk b12_ 0 none) [(.int .i64 r8_), (.int .i64 r9_), (.int .i64 r11_), (.int .i64 r10_), (.int .u32 0), (.int .u32 0), (.int .u32 0), (.int .u32 0), (.int .u32 0), (.int .u32 0), (.int .u32 0)]
 (f45c7 X L x b0_ b7_ b12_)
def f45c9 (X : Task → M Value) (L : LoopI) (x : ((Option Addr × Nat × Nat)) × Unit) (b0_ : Nat) : M (Value) :=
 M.new (.cells (Row.ofList [(.slice none 0 0)]) 49 false (0, 0) false) fun b7_ =>
 M.store (Addr.mk b7_ 0 none) [(.slice x.1.1 x.1.2.1 x.1.2.2)]
 (M.callS (.one (.cell (.int .i64))) (X (.call 88 [(.int .i64 2), (.pointer (some (Addr.mk b7_ 0 none)))])) fun (r8_ : Int) =>
 M.callS (.one (.cell (.int .i64))) (X (.call 88 [(.int .i64 1), (.pointer (some (Addr.mk b7_ 0 none)))])) fun (r9_ : Int) =>
 M.callS (.one (.cell (.int .i64))) (X (.call 88 [(.int .i64 1), (.pointer (some (Addr.mk b7_ 0 none)))])) fun (r10_ : Int) =>
 f45c8 X L x b0_ b7_ r8_ r9_ r10_)
def f45c10 (X : Task → M Value) (L : LoopI) (x : ((Option Addr × Nat × Nat)) × Unit) (b0_ : Nat) (v2_ : Bool) : M (Value) :=
 M.ite v2_
 (M.store (Addr.mk b0_ 0 none) [(.int .i64 0), (.int .i64 0), (.int .i64 0), (.int .i64 0), (.int .u32 0), (.int .u32 0), (.int .u32 0), (.int .u32 0), (.int .u32 0), (.int .u32 0), (.int .u32 0)]
 (f45c0 X L b0_))
 (M.ite (decide (((x.1.2.1 : Nat) : Int) > 112))
 (M.store (Addr.mk b0_ 0 none) [(.int .i64 0), (.int .i64 0), (.int .i64 0), (.int .i64 0), (.int .u32 0), (.int .u32 0), (.int .u32 0), (.int .u32 0), (.int .u32 0), (.int .u32 0), (.int .u32 0)]
 (f45c1 X L b0_))
 (f45c9 X L x b0_))
def f45 (X : Task → M Value) (L : LoopI) (x : ((Option Addr × Nat × Nat)) × Unit) : M Value :=
 M.new (.cells (Row.ofList [(.int .i64 0), (.int .i64 0), (.int .i64 0), (.int .i64 0), (.int .u32 0), (.int .u32 0), (.int .u32 0), (.int .u32 0), (.int .u32 0), (.int .u32 0), (.int .u32 0)]) 34 false (0, 0) false) fun b0_ =>
 f45c10 X L x b0_ (decide (((x.1.2.1 : Nat) : Int) < 112))

theorem e45 (X : Task → M Value) (L : LoopI) (x : ((Option Addr × Nat × Nat)) × Unit) : evBody CC { call := X, loop := L } 45 (shsInj [(.cell .slice)] x) = f45 X L x := by kernel_rfl

/-- hayrick/inode.May -/
def f46c0 (X : Task → M Value) (L : LoopI) (b0_ : Nat) (r7_ : Int) (v8_ : Int) : M (Value) :=
 M.guard (decide (0 ≤ v8_) && decide (v8_ ≤ ((6 : Nat) : Int)))
 (let v9_ : Nat := (Int.toNat v8_)
 M.join (fun (j10_ : (Bool) × Unit) =>
 M.pure (.bool j10_.1)) fun go11_ =>
 M.callS (.one (.cell .bool)) (X (.call 91 [(.slice (some (((Addr.mk b0_ 0 none).add 4).add (v9_ * 1))) (6 - v9_) (6 - v9_)), (.func (.func 92) ⟨[]⟩ ⟨[]⟩)])) fun (r12_ : Bool) =>
 M.ite (!r12_)
 (M.ite (decide (r7_ > 6))
 (go11_ (true, ()))
 (M.load (.cell (.int .u32)) 1 ((Addr.mk b0_ 0 none).add 10) fun (x15_ : Int) =>
 go11_ ((x15_ == 0), ())))
 (go11_ (false, ())))
def f46c1 (X : Task → M Value) (L : LoopI) (b0_ : Nat) (j2_ : (Int) × (Int) × Unit) (go5_ : ((Bool) × Unit) → M (Value)) (v20_ : Bool) : M (Value) :=
 M.ite v20_
 (go5_ (true, ()))
 (M.load (.cell (.int .i64)) 1 ((Addr.mk b0_ 0 none).add 2) fun (x21_ : Int) =>
 M.ite (decide (x21_ < 0))
 (go5_ (true, ()))
 (M.load (.cell (.int .i64)) 1 ((Addr.mk b0_ 0 none).add 2) fun (x23_ : Int) =>
 M.ite (decide (x23_ > j2_.1))
 (go5_ (true, ()))
 (M.load (.cell (.int .i64)) 1 ((Addr.mk b0_ 0 none).add 3) fun (x25_ : Int) =>
 M.ite (decide (x25_ < 1))
 (go5_ (true, ()))
 (M.load (.cell (.int .i64)) 1 ((Addr.mk b0_ 0 none).add 3) fun (x27_ : Int) =>
 go5_ ((decide (x27_ > j2_.2.1)), ())))))
def f46c2 (X : Task → M Value) (L : LoopI) (b0_ : Nat) (j2_ : (Int) × (Int) × Unit) : M (Value) :=
 M.join (fun (j4_ : (Bool) × Unit) =>
 M.ite j4_.1
 (M.pure (.bool false))
 (M.load (.cell (.int .i64)) 1 ((Addr.mk b0_ 0 none).add 2) fun (x6_ : Int) =>
 M.callS (.one (.cell (.int .i64))) (X (.call 78 [(.int .i64 x6_)])) fun (r7_ : Int) =>
 f46c0 X L b0_ r7_ (if 6 < r7_ then 6 else r7_))) fun go5_ =>
 M.load (.cell (.int .i64)) 1 ((Addr.mk b0_ 0 none).add 0) fun (x17_ : Int) =>
 M.ite (decide (x17_ < 1))
 (go5_ (true, ()))
 (M.load (.cell (.int .i64)) 1 ((Addr.mk b0_ 0 none).add 0) fun (x19_ : Int) =>
 f46c1 X L b0_ j2_ go5_ (decide (x19_ > 64)))
def f46c3 (X : Task → M Value) (L : LoopI) (x : (Int × Int × Int × Int × Int × Int × Int × Int × Int × Int × Int × Unit) × Unit) : M (Value) :=
 M.new (.cells (Row.ofList [(.int .i64 x.1.1), (.int .i64 x.1.2.1), (.int .i64 x.1.2.2.1), (.int .i64 x.1.2.2.2.1), (.int .u32 x.1.2.2.2.2.1), (.int .u32 x.1.2.2.2.2.2.1), (.int .u32 x.1.2.2.2.2.2.2.1), (.int .u32 x.1.2.2.2.2.2.2.2.1), (.int .u32 x.1.2.2.2.2.2.2.2.2.1), (.int .u32 x.1.2.2.2.2.2.2.2.2.2.1), (.int .u32 x.1.2.2.2.2.2.2.2.2.2.2.1)]) 34 false (0, 0) false) fun b0_ =>
 M.load (.cell (.int .i64)) 1 ((Addr.mk b0_ 0 none).add 1) fun (x1_ : Int) =>
 M.join (fun (j2_ : (Int) × (Int) × Unit) =>
 f46c2 X L b0_ j2_) fun go3_ =>
 M.ite (x1_ == 1)
 (go3_ (3808, 64, ()))
 (M.ite (x1_ == 2)
 (M.load (.cell (.int .i64)) 1 ((Addr.mk b0_ 0 none).add 2) fun (x31_ : Int) =>
 M.guard (!(decide (28 = 0)))
 (M.ite (!(((x31_ : Int).tmod 28) == 0))
 (M.pure (.bool false))
 (go3_ (1792, 1, ()))))
 (M.pure (.bool false)))
def f46 (X : Task → M Value) (L : LoopI) (x : (Int × Int × Int × Int × Int × Int × Int × Int × Int × Int × Int × Unit) × Unit) : M Value :=
 f46c3 X L x

theorem e46 (X : Task → M Value) (L : LoopI) (x : (Int × Int × Int × Int × Int × Int × Int × Int × Int × Int × Int × Unit) × Unit) : evBody CC { call := X, loop := L } 46 (shsInj [(.agg [(.int .i64), (.int .i64), (.int .i64), (.int .i64), (.int .u32), (.int .u32), (.int .u32), (.int .u32), (.int .u32), (.int .u32), (.int .u32)])] x) = f46 X L x := by kernel_rfl

/-- hayrick/points.All -/
def f48c0 (X : Task → M Value) (L : LoopI) (x : (Int × Int × Int × Int × Int × Int × Int × Int × Int × Int × Int × Unit) × ((Option Addr × Nat × Nat)) × Unit) (s6_ : ((Option Addr × Nat × Nat)) × (Int) × Unit) (r8_ : (Bool) × (Int) × (Bool) × Unit) (go10_ : (((Option Addr × Nat × Nat)) × Unit) → M ((((Option Addr × Nat × Nat)) × (Int) × Unit) ⊕ ((((Option Addr × Nat × Nat)) × Unit) ⊕ (Unit)))) (v18_ : Bool) : M ((((Option Addr × Nat × Nat)) × (Int) × Unit) ⊕ ((((Option Addr × Nat × Nat)) × Unit) ⊕ (Unit))) :=
 M.ite v18_
 (M.guard (decide (0 ≤ r8_.2.1) && decide (r8_.2.1 < ((x.2.1.2.1 : Nat) : Int)))
 (M.deref x.2.1.1 fun a19_ =>
 M.load (.cell (.int .u32)) 1 (a19_.add ((Int.toNat r8_.2.1) * 1)) fun (x20_ : Int) =>
 M.new (.cells (Row.ofList [(.int .u32 x20_)]) 31 false (0, 0) false) fun b21_ =>
 M.append 31 1 4 s6_.1.1 s6_.1.2.1 s6_.1.2.2 (.slice (some (Addr.mk b21_ 0 none)) 1 1) fun a22_ n23_ c24_ =>
 go10_ ((a22_, n23_, c24_), ())))
 (M.new (.cells (Row.ofList [(.int .u32 0)]) 31 false (0, 0) false) fun b25_ =>
 M.append 31 1 4 s6_.1.1 s6_.1.2.1 s6_.1.2.2 (.slice (some (Addr.mk b25_ 0 none)) 1 1) fun a26_ n27_ c28_ =>
 go10_ ((a26_, n27_, c28_), ()))
def f48c1 (X : Task → M Value) (L : LoopI) (x : (Int × Int × Int × Int × Int × Int × Int × Int × Int × Int × Int × Unit) × ((Option Addr × Nat × Nat)) × Unit) (b0_ : Nat) (s6_ : ((Option Addr × Nat × Nat)) × (Int) × Unit) (r8_ : (Bool) × (Int) × (Bool) × Unit) : M ((((Option Addr × Nat × Nat)) × (Int) × Unit) ⊕ ((((Option Addr × Nat × Nat)) × Unit) ⊕ (Unit))) :=
 M.join (fun (j9_ : ((Option Addr × Nat × Nat)) × Unit) =>
 M.pure (.inl (j9_.1, (IntKind.i64.wrap (s6_.2.1 + 1)), ()))) fun go10_ =>
 M.ite r8_.1
 (M.guard (decide (0 ≤ r8_.2.1) && decide (r8_.2.1 < ((6 : Nat) : Int)))
 (M.load (.cell (.int .u32)) 1 (((Addr.mk b0_ 0 none).add 4).add ((Int.toNat r8_.2.1) * 1)) fun (x12_ : Int) =>
 M.new (.cells (Row.ofList [(.int .u32 x12_)]) 31 false (0, 0) false) fun b13_ =>
 M.append 31 1 4 s6_.1.1 s6_.1.2.1 s6_.1.2.2 (.slice (some (Addr.mk b13_ 0 none)) 1 1) fun a14_ n15_ c16_ =>
 go10_ ((a14_, n15_, c16_), ())))
 (f48c0 X L x s6_ r8_ go10_ (decide (r8_.2.1 < ((x.2.1.2.1 : Nat) : Int))))
def f48c2 (X : Task → M Value) (L : LoopI) (x : (Int × Int × Int × Int × Int × Int × Int × Int × Int × Int × Int × Unit) × ((Option Addr × Nat × Nat)) × Unit) (b0_ : Nat) (r5_ : Int) : M (Value) :=
 M.bind (L (σ := ((Option Addr × Nat × Nat)) × (Int) × Unit) (ρ := (((Option Addr × Nat × Nat)) × Unit) ⊕ (Unit)) (fun s6_ =>
 M.ite (decide (s6_.2.1 < r5_))
 (M.callS (.tuple [(.cell .bool), (.cell (.int .i64)), (.cell .bool)]) (X (.call 94 [(.int .i64 s6_.2.1)])) fun (r8_ : (Bool) × (Int) × (Bool) × Unit) =>
 f48c1 X L x b0_ s6_ r8_)
 (M.pure (.inr (.inl (s6_.1, ()))))) ((none, 0, 0), 0, ())) <| M.sum (fun (j29_ : ((Option Addr × Nat × Nat)) × Unit) =>
 M.pure (.tuple ⟨[(.slice j29_.1.1 j29_.1.2.1 j29_.1.2.2), (.int .i64 0)]⟩)) (fun _ => M.stuck)
def f48c3 (X : Task → M Value) (L : LoopI) (x : (Int × Int × Int × Int × Int × Int × Int × Int × Int × Int × Int × Unit) × ((Option Addr × Nat × Nat)) × Unit) (b0_ : Nat) (x1_ : Int × Int × Int × Int × Int × Int × Int × Int × Int × Int × Int × Unit) : M (Value) :=
 M.callS (.one (.cell .bool)) (X (.call 46 [(.agg ⟨[(.int .i64 x1_.1), (.int .i64 x1_.2.1), (.int .i64 x1_.2.2.1), (.int .i64 x1_.2.2.2.1), (.int .u32 x1_.2.2.2.2.1), (.int .u32 x1_.2.2.2.2.2.1), (.int .u32 x1_.2.2.2.2.2.2.1), (.int .u32 x1_.2.2.2.2.2.2.2.1), (.int .u32 x1_.2.2.2.2.2.2.2.2.1), (.int .u32 x1_.2.2.2.2.2.2.2.2.2.1), (.int .u32 x1_.2.2.2.2.2.2.2.2.2.2.1)]⟩)])) fun (r2_ : Bool) =>
 M.ite (!r2_)
 (M.pure (.tuple ⟨[(.slice none 0 0), (.int .i64 1)]⟩))
 (M.load (.cell (.int .i64)) 1 ((Addr.mk b0_ 0 none).add 2) fun (x4_ : Int) =>
 M.callS (.one (.cell (.int .i64))) (X (.call 78 [(.int .i64 x4_)])) fun (r5_ : Int) =>
 f48c2 X L x b0_ r5_)
def f48c4 (X : Task → M Value) (L : LoopI) (x : (Int × Int × Int × Int × Int × Int × Int × Int × Int × Int × Int × Unit) × ((Option Addr × Nat × Nat)) × Unit) : M (Value) :=
 M.new (.cells (Row.ofList [(.int .i64 x.1.1), (.int .i64 x.1.2.1), (.int .i64 x.1.2.2.1), (.int .i64 x.1.2.2.2.1), (.int .u32 x.1.2.2.2.2.1), (.int .u32 x.1.2.2.2.2.2.1), (.int .u32 x.1.2.2.2.2.2.2.1), (.int .u32 x.1.2.2.2.2.2.2.2.1), (.int .u32 x.1.2.2.2.2.2.2.2.2.1), (.int .u32 x.1.2.2.2.2.2.2.2.2.2.1), (.int .u32 x.1.2.2.2.2.2.2.2.2.2.2.1)]) 34 false (0, 0) false) fun b0_ =>
 M.load (.agg [(.int .i64), (.int .i64), (.int .i64), (.int .i64), (.int .u32), (.int .u32), (.int .u32), (.int .u32), (.int .u32), (.int .u32), (.int .u32)]) 11 (Addr.mk b0_ 0 none) fun (x1_ : Int × Int × Int × Int × Int × Int × Int × Int × Int × Int × Int × Unit) =>
 f48c3 X L x b0_ x1_
def f48 (X : Task → M Value) (L : LoopI) (x : (Int × Int × Int × Int × Int × Int × Int × Int × Int × Int × Int × Unit) × ((Option Addr × Nat × Nat)) × Unit) : M Value :=
 f48c4 X L x

theorem e48 (X : Task → M Value) (L : LoopI) (x : (Int × Int × Int × Int × Int × Int × Int × Int × Int × Int × Int × Unit) × ((Option Addr × Nat × Nat)) × Unit) : evBody CC { call := X, loop := L } 48 (shsInj [(.agg [(.int .i64), (.int .i64), (.int .i64), (.int .i64), (.int .u32), (.int .u32), (.int .u32), (.int .u32), (.int .u32), (.int .u32), (.int .u32)]), (.cell .slice)] x) = f48 X L x := by kernel_rfl

/-- hayrick/hayricklaw08.Made -/
def f49c0 (X : Task → M Value) (L : LoopI) (x : (Int) × (Int) × (Int) × (Int) × Unit) (b1_ : Nat) (r9_ : (Option Addr) × (Int) × Unit) (r13_ : (Option Addr) × (Int) × Unit) : M (Value) :=
 M.load (.agg [(.int .i64), (.int .i64), (.int .i64)]) 3 (Addr.mk b1_ 0 none) fun (x14_ : Int × Int × Int × Unit) =>
 M.callS (.tuple [(.cell .ptr), (.cell (.int .i64))]) (X (.call 98 [(.pointer r9_.1), (.agg ⟨[(.int .i64 x14_.1), (.int .i64 x14_.2.1), (.int .i64 x14_.2.2.1)]⟩), (.int .i64 x.2.2.2.1)])) fun (r15_ : (Option Addr) × (Int) × Unit) =>
 M.join (fun (j16_ : (Bool) × Unit) =>
 M.ite j16_.1
 (M.pure (.tuple ⟨[(.pointer none), (.pointer none)]⟩))
 (M.pure (.tuple ⟨[(.pointer r13_.1), (.pointer r15_.1)]⟩))) fun go17_ =>
 M.ite (!(r13_.2.1 == 0))
 (go17_ (true, ()))
 (go17_ ((!(r15_.2.1 == 0)), ()))
def f49c1 (X : Task → M Value) (L : LoopI) (x : (Int) × (Int) × (Int) × (Int) × Unit) (b1_ : Nat) (r5_ : (Option Addr) × (Int) × Unit) (r9_ : (Option Addr) × (Int) × Unit) : M (Value) :=
 M.join (fun (j10_ : (Bool) × Unit) =>
 M.ite j10_.1
 (M.pure (.tuple ⟨[(.pointer none), (.pointer none)]⟩))
 (M.load (.agg [(.int .i64), (.int .i64), (.int .i64)]) 3 (Addr.mk b1_ 0 none) fun (x12_ : Int × Int × Int × Unit) =>
 M.callS (.tuple [(.cell .ptr), (.cell (.int .i64))]) (X (.call 97 [(.pointer r5_.1), (.agg ⟨[(.int .i64 x12_.1), (.int .i64 x12_.2.1), (.int .i64 x12_.2.2.1)]⟩), (.int .i64 x.2.2.2.1)])) fun (r13_ : (Option Addr) × (Int) × Unit) =>
 f49c0 X L x b1_ r9_ r13_)) fun go11_ =>
 M.ite (!(r5_.2.1 == 0))
 (go11_ (true, ()))
 (go11_ ((!(r9_.2.1 == 0)), ()))
def f49c2 (X : Task → M Value) (L : LoopI) (x : (Int) × (Int) × (Int) × (Int) × Unit) (b1_ : Nat) (x2_ : Int) : M (Value) :=
 M.callS (.tuple [(.cell .ptr), (.cell (.int .i64))]) (X (.call 95 [(.int .i64 x2_), (.int .i64 (IntKind.i64.wrap (x.2.2.2.1 + (IntKind.i64.wrap (8 * x.2.2.1)))))])) fun (r5_ : (Option Addr) × (Int) × Unit) =>
 M.load (.cell (.int .i64)) 1 ((Addr.mk b1_ 0 none).add 1) fun (x6_ : Int) =>
 M.callS (.tuple [(.cell .ptr), (.cell (.int .i64))]) (X (.call 96 [(.int .i64 x6_), (.int .i64 (IntKind.i64.wrap (x.2.2.2.1 + (IntKind.i64.wrap (8 * x.2.2.1)))))])) fun (r9_ : (Option Addr) × (Int) × Unit) =>
 f49c1 X L x b1_ r5_ r9_
def f49 (X : Task → M Value) (L : LoopI) (x : (Int) × (Int) × (Int) × (Int) × Unit) : M Value :=
 M.new (.cells (Row.ofList [(.int .i64 0), (.int .i64 0), (.int .i64 0)]) 127 false (0, 0) false) fun b1_ =>
 M.store (Addr.mk b1_ 0 none) [(.int .i64 x.1), (.int .i64 (IntKind.i64.wrap (x.1 + x.2.1))), (.int .i64 x.2.2.1)]
 (M.load (.cell (.int .i64)) 1 ((Addr.mk b1_ 0 none).add 1) fun (x2_ : Int) =>
 f49c2 X L x b1_ x2_)

theorem e49 (X : Task → M Value) (L : LoopI) (x : (Int) × (Int) × (Int) × (Int) × Unit) : evBody CC { call := X, loop := L } 49 (shsInj [(.cell (.int .i64)), (.cell (.int .i64)), (.cell (.int .i64)), (.cell (.int .i64))] x) = f49 X L x := by kernel_rfl

/-- hayrick/hayricklaw17.Every -/
def f50c0 (X : Task → M Value) (L : LoopI) (x : (Int) × Unit) : M (Value) :=
 M.bind (L (σ := ((Option Addr × Nat × Nat)) × (Int) × Unit) (ρ := (((Option Addr × Nat × Nat)) × Unit) ⊕ (Unit)) (fun s0_ =>
 M.ite (decide (s0_.2.1 < x.1))
 (M.new (.cells (Row.ofList [(.int .i64 s0_.2.1)]) 3 false (0, 0) false) fun b2_ =>
 M.append 3 1 8 s0_.1.1 s0_.1.2.1 s0_.1.2.2 (.slice (some (Addr.mk b2_ 0 none)) 1 1) fun a3_ n4_ c5_ =>
 M.pure (.inl ((a3_, n4_, c5_), (IntKind.i64.wrap (s0_.2.1 + 1)), ())))
 (M.pure (.inr (.inl (s0_.1, ()))))) ((none, 0, 0), 0, ())) <| M.sum (fun (j7_ : ((Option Addr × Nat × Nat)) × Unit) =>
 M.pure (.slice j7_.1.1 j7_.1.2.1 j7_.1.2.2)) (fun _ => M.stuck)
def f50 (X : Task → M Value) (L : LoopI) (x : (Int) × Unit) : M Value :=
 f50c0 X L x

theorem e50 (X : Task → M Value) (L : LoopI) (x : (Int) × Unit) : evBody CC { call := X, loop := L } 50 (shsInj [(.cell (.int .i64))] x) = f50 X L x := by kernel_rfl

/-- hayrick/hayrickref17.New -/
def f51c0 (X : Task → M Value) (L : LoopI) (x : (Option Addr) × (Int) × ((Option Addr × Nat × Nat)) × ((Option Addr × Nat × Nat)) × Unit) (r2_ : ((Option Addr × Nat × Nat)) × (Bool) × Unit) : M (Value) :=
 M.join (fun (j3_ : (Bool) × Unit) =>
 M.ite j3_.1
 (M.pure (.tuple ⟨[(.pointer none), (.int .i64 1)]⟩))
 (M.append 75 1 8 none 0 0 (.slice x.2.2.1.1 x.2.2.1.2.1 x.2.2.1.2.2) fun a5_ n6_ c7_ =>
 M.new (.cells (Row.ofList [(.pointer x.1), (.int .u64 x.2.1), (.slice a5_ n6_ c7_), (.slice r2_.1.1 r2_.1.2.1 r2_.1.2.2), (.int .i64 (-1)), (.slice none 0 0), (.slice none 0 0), (.bool false)]) 175 false (0, 0) false) fun b8_ =>
 M.pure (.tuple ⟨[(.pointer (some (Addr.mk b8_ 0 none))), (.int .i64 0)]⟩))) fun go4_ =>
 M.ite (x.2.1 == 0)
 (go4_ (true, ()))
 (M.deref x.1 fun a11_ =>
 M.load (.cell (.int .i64)) 1 ((a11_.add 1).add 2) fun (x12_ : Int) =>
 M.ite (!(((x.2.2.1.2.1 : Nat) : Int) == x12_))
 (go4_ (true, ()))
 (go4_ ((!r2_.2.1), ())))
def f51 (X : Task → M Value) (L : LoopI) (x : (Option Addr) × (Int) × ((Option Addr × Nat × Nat)) × ((Option Addr × Nat × Nat)) × Unit) : M Value :=
 M.deref x.1 fun a0_ =>
 M.load (.cell (.int .i64)) 1 ((a0_.add 1).add 2) fun (x1_ : Int) =>
 M.callS (.tuple [(.cell .slice), (.cell .bool)]) (X (.call 99 [(.slice x.2.2.2.1.1 x.2.2.2.1.2.1 x.2.2.2.1.2.2), (.int .i64 x1_), (.int .i64 (-1))])) fun (r2_ : ((Option Addr × Nat × Nat)) × (Bool) × Unit) =>
 f51c0 X L x r2_

theorem e51 (X : Task → M Value) (L : LoopI) (x : (Option Addr) × (Int) × ((Option Addr × Nat × Nat)) × ((Option Addr × Nat × Nat)) × Unit) : evBody CC { call := X, loop := L } 51 (shsInj [(.cell .ptr), (.cell (.int .u64)), (.cell .slice), (.cell .slice)] x) = f51 X L x := by kernel_rfl

/-- (*hayrick/logs.Log).does -/
def f52c0 (X : Task → M Value) (L : LoopI) (x : (Option Addr) × (Value) × Unit) : M (Value) :=
 M.join (fun (j0_ : (Bool) × Unit) =>
 M.ite j0_.1
 (M.pure (.int .i64 2))
 (M.deref x.1 fun a2_ =>
 M.load (.cell .bool) 1 (a2_.add 7) fun (x3_ : Bool) =>
 M.ite x3_
 (M.pure (.int .i64 20))
 (callV CC ⟨X, L⟩ x.2.1 [] fun w5_ => M.need (RSh.prj (.one (.cell (.int .i64))) w5_) fun (r4_ : Int) =>
 M.pure (.int .i64 r4_)))) fun go1_ =>
 M.eqPtr x.1 none fun (q6_ : Bool) =>
 M.ite q6_
 (go1_ (true, ()))
 (M.deref x.1 fun a7_ =>
 M.load (.cell .ptr) 1 (a7_.add 0) fun (x8_ : Option Addr) =>
 M.eqPtr x8_ none fun (q9_ : Bool) =>
 go1_ (q9_, ()))
def f52 (X : Task → M Value) (L : LoopI) (x : (Option Addr) × (Value) × Unit) : M Value :=
 f52c0 X L x

theorem e52 (X : Task → M Value) (L : LoopI) (x : (Option Addr) × (Value) × Unit) : evBody CC { call := X, loop := L } 52 (shsInj [(.cell .ptr), (.cell .val)] x) = f52 X L x := by kernel_rfl

/-- (*hayrick/logs.Log).Append$1 -/
def f53c0 (X : Task → M Value) (L : LoopI) (x : (Option Addr) × (Option Addr) × (Option Addr) × (Option Addr) × Unit) (x75_ : Option Addr) (a76_ : Addr) (x77_ : (Option Addr × Nat × Nat)) (v78_ : Int) (r85_ : Int) : M (Value) :=
 M.load (.cell .slice) 1 (a76_.add 5) fun (x86_ : (Option Addr × Nat × Nat)) => cond (veqv (.slice x86_.1 x86_.2.1 x86_.2.2) (.slice x77_.1 x77_.2.1 x77_.2.2)) (M.deref x.2.2.1 fun a87_ =>
 M.load (.cell .ptr) 1 a87_ fun (x88_ : Option Addr) => cond (veqv (.pointer x88_) (.pointer x75_)) (M.ite (v78_ == r85_)
 (M.deref x.2.2.1 fun a90_ =>
 M.load (.cell .ptr) 1 a90_ fun (x91_ : Option Addr) =>
 M.callS (.one (.cell (.int .i64))) (X (.call 59 [(.pointer x91_)])) fun (r92_ : Int) =>
 M.pure (.int .i64 r92_))
 (M.pure (.int .i64 0))) M.stuck) M.stuck
def f53c1 (X : Task → M Value) (L : LoopI) (x : (Option Addr) × (Option Addr) × (Option Addr) × (Option Addr) × Unit) (x75_ : Option Addr) (a76_ : Addr) (x77_ : (Option Addr × Nat × Nat)) (v78_ : Int) (x80_ : Option Addr) : M (Value) :=
 M.callS (.one (.cell (.int .i64))) (X (.call 56 [(.pointer x80_)])) fun (r81_ : Int) =>
 M.load (.cell .slice) 1 (a76_.add 5) fun (x82_ : (Option Addr × Nat × Nat)) => cond (veqv (.slice x82_.1 x82_.2.1 x82_.2.2) (.slice x77_.1 x77_.2.1 x77_.2.2)) (M.deref x.2.2.1 fun a83_ =>
 M.load (.cell .ptr) 1 a83_ fun (x84_ : Option Addr) => cond (veqv (.pointer x84_) (.pointer x75_)) (M.callS (.one (.cell (.int .i64))) (X (.call 58 [(.int .i64 r81_)])) fun (r85_ : Int) =>
 f53c0 X L x x75_ a76_ x77_ v78_ r85_) M.stuck) M.stuck
def f53c2 (X : Task → M Value) (L : LoopI) (x : (Option Addr) × (Option Addr) × (Option Addr) × (Option Addr) × Unit) (x28_ : Option Addr) (a63_ : Option Addr) (n64_ : Nat) (c65_ : Nat) : M (Value) :=
 M.deref x.2.2.1 fun a71_ =>
 M.load (.cell .ptr) 1 a71_ fun (x72_ : Option Addr) => cond (veqv (.pointer x72_) (.pointer x28_)) (M.deref x28_ fun a73_ =>
 M.store (a73_.add 6) [(.slice a63_ n64_ c65_)]
 (M.deref x.2.2.1 fun a74_ =>
 M.load (.cell .ptr) 1 a74_ fun (x75_ : Option Addr) =>
 M.deref x75_ fun a76_ =>
 M.load (.cell .slice) 1 (a76_.add 5) fun (x77_ : (Option Addr × Nat × Nat)) =>
 M.deref x.2.2.1 fun a79_ =>
 M.load (.cell .ptr) 1 a79_ fun (x80_ : Option Addr) =>
 f53c1 X L x x75_ a76_ x77_ ((x77_.2.1 : Nat) : Int) x80_)) M.stuck
def f53c3 (X : Task → M Value) (L : LoopI) (x : (Option Addr) × (Option Addr) × (Option Addr) × (Option Addr) × Unit) (x26_ : Option Addr) (x28_ : Option Addr) (x37_ : Option Addr) (a38_ : Addr) (x39_ : (Option Addr × Nat × Nat)) (a42_ : Option Addr) (n43_ : Nat) (c44_ : Nat) (r54_ : (Option Addr × Nat × Nat)) : M (Value) :=
 M.load (.cell .slice) 1 (a38_.add 6) fun (x55_ : (Option Addr × Nat × Nat)) => cond (veqv (.slice x55_.1 x55_.2.1 x55_.2.2) (.slice x39_.1 x39_.2.1 x39_.2.2)) (M.deref x.2.2.1 fun a56_ =>
 M.load (.cell .ptr) 1 a56_ fun (x57_ : Option Addr) => cond (veqv (.pointer x57_) (.pointer x37_)) (M.deref x.2.2.1 fun a58_ =>
 M.load (.cell .ptr) 1 a58_ fun (x59_ : Option Addr) => cond (veqv (.pointer x59_) (.pointer x28_)) (M.deref x.2.2.1 fun a60_ =>
 M.load (.cell .ptr) 1 a60_ fun (x61_ : Option Addr) => cond (veqv (.pointer x61_) (.pointer x26_)) (M.new (.cells (Row.ofList [(.slice r54_.1 r54_.2.1 r54_.2.2)]) 49 false (0, 0) false) fun b62_ =>
 M.append 49 1 24 x39_.1 x39_.2.1 x39_.2.2 (.slice (some (Addr.mk b62_ 0 none)) 1 1) fun a63_ n64_ c65_ =>
 M.deref x.2.2.1 fun a66_ =>
 M.load (.cell .ptr) 1 a66_ fun (x67_ : Option Addr) => cond (veqv (.pointer x67_) (.pointer x28_)) (M.deref x.2.2.1 fun a68_ =>
 M.load (.cell .ptr) 1 a68_ fun (x69_ : Option Addr) => cond (veqv (.pointer x69_) (.pointer x26_)) (M.deref x26_ fun a70_ =>
 M.store (a70_.add 5) [(.slice a42_ n43_ c44_)]
 (f53c2 X L x x28_ a63_ n64_ c65_)) M.stuck) M.stuck) M.stuck) M.stuck) M.stuck) M.stuck
def f53c4 (X : Task → M Value) (L : LoopI) (x : (Option Addr) × (Option Addr) × (Option Addr) × (Option Addr) × Unit) (x26_ : Option Addr) (x28_ : Option Addr) (x37_ : Option Addr) (a38_ : Addr) (x39_ : (Option Addr × Nat × Nat)) (x41_ : (Option Addr × Nat × Nat)) (a42_ : Option Addr) (n43_ : Nat) (c44_ : Nat) : M (Value) :=
 M.deref x.2.1 fun a45_ =>
 M.load (.cell .slice) 1 a45_ fun (x46_ : (Option Addr × Nat × Nat)) => cond (veqv (.slice x46_.1 x46_.2.1 x46_.2.2) (.slice x41_.1 x41_.2.1 x41_.2.2)) (M.load (.cell .slice) 1 (a38_.add 6) fun (x47_ : (Option Addr × Nat × Nat)) => cond (veqv (.slice x47_.1 x47_.2.1 x47_.2.2) (.slice x39_.1 x39_.2.1 x39_.2.2)) (M.deref x.2.2.1 fun a48_ =>
 M.load (.cell .ptr) 1 a48_ fun (x49_ : Option Addr) => cond (veqv (.pointer x49_) (.pointer x37_)) (M.deref x.2.2.1 fun a50_ =>
 M.load (.cell .ptr) 1 a50_ fun (x51_ : Option Addr) => cond (veqv (.pointer x51_) (.pointer x28_)) (M.deref x.2.2.1 fun a52_ =>
 M.load (.cell .ptr) 1 a52_ fun (x53_ : Option Addr) => cond (veqv (.pointer x53_) (.pointer x26_)) (M.callS (.one (.cell .slice)) (X (.call 57 [(.slice x41_.1 x41_.2.1 x41_.2.2)])) fun (r54_ : (Option Addr × Nat × Nat)) =>
 f53c3 X L x x26_ x28_ x37_ a38_ x39_ a42_ n43_ c44_ r54_) M.stuck) M.stuck) M.stuck) M.stuck) M.stuck
def f53c5 (X : Task → M Value) (L : LoopI) (x : (Option Addr) × (Option Addr) × (Option Addr) × (Option Addr) × Unit) (x26_ : Option Addr) (x28_ : Option Addr) (x32_ : (Option Addr × Nat × Nat)) (x34_ : Int × Bool × Int × Int × Unit) : M (Value) :=
 M.new (.cells (Row.ofList [(.int .i64 x34_.1), (.bool x34_.2.1), (.int .i64 x34_.2.2.1), (.int .i64 x34_.2.2.2.1)]) 58 false (0, 0) false) fun b35_ =>
 M.deref x.2.2.1 fun a36_ =>
 M.load (.cell .ptr) 1 a36_ fun (x37_ : Option Addr) =>
 M.deref x37_ fun a38_ =>
 M.load (.cell .slice) 1 (a38_.add 6) fun (x39_ : (Option Addr × Nat × Nat)) =>
 M.deref x.2.1 fun a40_ =>
 M.load (.cell .slice) 1 a40_ fun (x41_ : (Option Addr × Nat × Nat)) =>
 M.append 58 4 32 x32_.1 x32_.2.1 x32_.2.2 (.slice (some (Addr.mk b35_ 0 none)) 1 1) fun a42_ n43_ c44_ =>
 f53c4 X L x x26_ x28_ x37_ a38_ x39_ x41_ a42_ n43_ c44_
def f53c6 (X : Task → M Value) (L : LoopI) (x : (Option Addr) × (Option Addr) × (Option Addr) × (Option Addr) × Unit) : M (Value) :=
 M.deref x.2.2.1 fun a25_ =>
 M.load (.cell .ptr) 1 a25_ fun (x26_ : Option Addr) =>
 M.deref x.2.2.1 fun a27_ =>
 M.load (.cell .ptr) 1 a27_ fun (x28_ : Option Addr) =>
 M.deref x.2.2.1 fun a29_ =>
 M.load (.cell .ptr) 1 a29_ fun (x30_ : Option Addr) =>
 M.deref x30_ fun a31_ =>
 M.load (.cell .slice) 1 (a31_.add 5) fun (x32_ : (Option Addr × Nat × Nat)) =>
 M.deref x.1 fun a33_ =>
 M.load (.agg [(.int .i64), .bool, (.int .i64), (.int .i64)]) 4 a33_ fun (x34_ : Int × Bool × Int × Int × Unit) =>
 f53c5 X L x x26_ x28_ x32_ x34_
def f53c7 (X : Task → M Value) (L : LoopI) (x : (Option Addr) × (Option Addr) × (Option Addr) × (Option Addr) × Unit) (x7_ : Option Addr) (a8_ : Addr) (x9_ : Int) (x11_ : Option Addr) (a12_ : Addr) (x13_ : (Option Addr × Nat × Nat)) (v14_ : Int) (r15_ : Int) : M (Value) :=
 M.load (.cell .slice) 1 (a12_.add 5) fun (x16_ : (Option Addr × Nat × Nat)) => cond (veqv (.slice x16_.1 x16_.2.1 x16_.2.2) (.slice x13_.1 x13_.2.1 x13_.2.2)) (M.deref x.2.2.1 fun a17_ =>
 M.load (.cell .ptr) 1 a17_ fun (x18_ : Option Addr) => cond (veqv (.pointer x18_) (.pointer x11_)) (M.load (.cell (.int .i64)) 1 (a8_.add 4) fun (x19_ : Int) => cond (veqv (.int .i64 x19_) (.int .i64 x9_)) (M.deref x.2.2.1 fun a20_ =>
 M.load (.cell .ptr) 1 a20_ fun (x21_ : Option Addr) => cond (veqv (.pointer x21_) (.pointer x7_)) (M.callS (.tuple [(.cell (.int .u32)), (.cell (.int .i64))]) (X (.call 55 [(.int .i64 r15_), (.int .i64 x9_), (.int .i64 v14_)])) fun (r22_ : (Int) × (Int) × Unit) =>
 M.deref x.2.2.2.1 fun a23_ =>
 M.store a23_ [(.int .u32 r22_.1)]
 (M.ite (!(r22_.2.1 == 0))
 (M.pure (.int .i64 r22_.2.1))
 (f53c6 X L x))) M.stuck) M.stuck) M.stuck) M.stuck
def f53c8 (X : Task → M Value) (L : LoopI) (x : (Option Addr) × (Option Addr) × (Option Addr) × (Option Addr) × Unit) (x5_ : Option Addr) : M (Value) :=
 M.deref x.2.2.1 fun a6_ =>
 M.load (.cell .ptr) 1 a6_ fun (x7_ : Option Addr) =>
 M.deref x7_ fun a8_ =>
 M.load (.cell (.int .i64)) 1 (a8_.add 4) fun (x9_ : Int) =>
 M.deref x.2.2.1 fun a10_ =>
 M.load (.cell .ptr) 1 a10_ fun (x11_ : Option Addr) =>
 M.deref x11_ fun a12_ =>
 M.load (.cell .slice) 1 (a12_.add 5) fun (x13_ : (Option Addr × Nat × Nat)) =>
 M.callS (.one (.cell (.int .i64))) (X (.call 56 [(.pointer x5_)])) fun (r15_ : Int) =>
 f53c7 X L x x7_ a8_ x9_ x11_ a12_ x13_ ((x13_.2.1 : Nat) : Int) r15_
def f53c9 (X : Task → M Value) (L : LoopI) (x : (Option Addr) × (Option Addr) × (Option Addr) × (Option Addr) × Unit) (go3_ : (Unit) → M (Value)) : M (Value) :=
 M.deref x.2.2.1 fun a123_ =>
 M.load (.cell .ptr) 1 a123_ fun (x124_ : Option Addr) =>
 M.deref x124_ fun a125_ =>
 M.load (.cell .slice) 1 (a125_.add 2) fun (x126_ : (Option Addr × Nat × Nat)) =>
 M.deref x.2.2.1 fun a127_ =>
 M.load (.cell .ptr) 1 a127_ fun (x128_ : Option Addr) =>
 M.deref x128_ fun a129_ =>
 M.load (.cell (.int .i64)) 1 (a129_.add 4) fun (x130_ : Int) =>
 M.guard (decide (0 ≤ x130_) && decide (x130_ < ((x126_.2.1 : Nat) : Int)))
 (M.deref x126_.1 fun a131_ =>
 M.store (a131_.add ((Int.toNat x130_) * 1)) [(.int .u64 0)]
 (go3_ (())))
def f53c10 (X : Task → M Value) (L : LoopI) (x : (Option Addr) × (Option Addr) × (Option Addr) × (Option Addr) × Unit) (go3_ : (Unit) → M (Value)) (x105_ : Option Addr) (x107_ : Option Addr) (x113_ : Int) (a116_ : Addr) : M (Value) :=
 M.load (.cell .slice) 1 (a116_.add 3) fun (x117_ : (Option Addr × Nat × Nat)) =>
 M.guard (decide (0 ≤ 1) && decide (1 ≤ ((x117_.2.1 : Nat) : Int)))
 (let v118_ : Nat := (Int.toNat 1)
 M.deref x105_ fun a119_ =>
 M.store (a119_.add 4) [(.int .i64 x113_)]
 (M.deref x.2.2.1 fun a120_ =>
 M.load (.cell .ptr) 1 a120_ fun (x121_ : Option Addr) => cond (veqv (.pointer x121_) (.pointer x107_)) (M.deref x107_ fun a122_ =>
 M.store (a122_.add 3) [(.slice (x117_.1.map (·.add (v118_ * 1))) (x117_.2.1 - v118_) (x117_.2.2 - v118_))]
 (f53c9 X L x go3_)) M.stuck))
def f53c11 (X : Task → M Value) (L : LoopI) (x : (Option Addr) × (Option Addr) × (Option Addr) × (Option Addr) × Unit) (go3_ : (Unit) → M (Value)) (x105_ : Option Addr) (x107_ : Option Addr) : M (Value) :=
 M.deref x.2.2.1 fun a108_ =>
 M.load (.cell .ptr) 1 a108_ fun (x109_ : Option Addr) =>
 M.deref x109_ fun a110_ =>
 M.load (.cell .slice) 1 (a110_.add 3) fun (x111_ : (Option Addr × Nat × Nat)) =>
 M.guard (decide (0 ≤ 0) && decide (0 < ((x111_.2.1 : Nat) : Int)))
 (M.deref x111_.1 fun a112_ =>
 M.load (.cell (.int .i64)) 1 (a112_.add ((Int.toNat 0) * 1)) fun (x113_ : Int) =>
 M.deref x.2.2.1 fun a114_ =>
 M.load (.cell .ptr) 1 a114_ fun (x115_ : Option Addr) =>
 M.deref x115_ fun a116_ =>
 f53c10 X L x go3_ x105_ x107_ x113_ a116_)
def f53c12 (X : Task → M Value) (L : LoopI) (x : (Option Addr) × (Option Addr) × (Option Addr) × (Option Addr) × Unit) (go3_ : (Unit) → M (Value)) (a95_ : Addr) : M (Value) :=
 M.load (.cell (.int .i64)) 1 (a95_.add 4) fun (x96_ : Int) =>
 M.ite (decide (x96_ < 0))
 (M.deref x.2.2.1 fun a98_ =>
 M.load (.cell .ptr) 1 a98_ fun (x99_ : Option Addr) =>
 M.deref x99_ fun a100_ =>
 M.load (.cell .slice) 1 (a100_.add 3) fun (x101_ : (Option Addr × Nat × Nat)) =>
 M.ite (((x101_.2.1 : Nat) : Int) == 0)
 (M.pure (.int .i64 7))
 (M.deref x.2.2.1 fun a104_ =>
 M.load (.cell .ptr) 1 a104_ fun (x105_ : Option Addr) =>
 M.deref x.2.2.1 fun a106_ =>
 M.load (.cell .ptr) 1 a106_ fun (x107_ : Option Addr) =>
 f53c11 X L x go3_ x105_ x107_))
 (go3_ (()))
def f53c13 (X : Task → M Value) (L : LoopI) (x : (Option Addr) × (Option Addr) × (Option Addr) × (Option Addr) × Unit) : M (Value) :=
 M.join (fun (j0_ : (Bool) × Unit) =>
 M.ite j0_.1
 (M.pure (.int .i64 1))
 (M.join (fun (j2_ : Unit) =>
 M.deref x.2.2.1 fun a4_ =>
 M.load (.cell .ptr) 1 a4_ fun (x5_ : Option Addr) =>
 f53c8 X L x x5_) fun go3_ =>
 M.deref x.2.2.1 fun a93_ =>
 M.load (.cell .ptr) 1 a93_ fun (x94_ : Option Addr) =>
 M.deref x94_ fun a95_ =>
 f53c12 X L x go3_ a95_)) fun go1_ =>
 M.deref x.1 fun a132_ =>
 M.load (.agg [(.int .i64), .bool, (.int .i64), (.int .i64)]) 4 a132_ fun (x133_ : Int × Bool × Int × Int × Unit) =>
 M.callS (.one (.cell .bool)) (X (.call 54 [(.agg ⟨[(.int .i64 x133_.1), (.bool x133_.2.1), (.int .i64 x133_.2.2.1), (.int .i64 x133_.2.2.2.1)]⟩)])) fun (r134_ : Bool) =>
 M.ite (!r134_)
 (go1_ (true, ()))
 (M.deref x.2.1 fun a136_ =>
 M.load (.cell .slice) 1 a136_ fun (x137_ : (Option Addr × Nat × Nat)) =>
 go1_ ((!(((x137_.2.1 : Nat) : Int) == 112)), ()))
def f53 (X : Task → M Value) (L : LoopI) (x : (Option Addr) × (Option Addr) × (Option Addr) × (Option Addr) × Unit) : M Value :=
 f53c13 X L x

theorem e53 (X : Task → M Value) (L : LoopI) (x : (Option Addr) × (Option Addr) × (Option Addr) × (Option Addr) × Unit) : evBody CC { call := X, loop := L } 53 (shsInj [(.cell .ptr), (.cell .ptr), (.cell .ptr), (.cell .ptr)] x) = f53 X L x := by kernel_rfl

/-- hayrick/summary.May -/
def f54c0 (X : Task → M Value) (L : LoopI) (b0_ : Nat) (go2_ : ((Bool) × Unit) → M (Value)) (v10_ : Bool) : M (Value) :=
 M.ite v10_
 (go2_ (true, ()))
 (M.load (.cell (.int .i64)) 1 ((Addr.mk b0_ 0 none).add 0) fun (x11_ : Int) =>
 M.ite (decide (x11_ > 4))
 (go2_ (true, ()))
 (M.load (.cell (.int .i64)) 1 ((Addr.mk b0_ 0 none).add 2) fun (x13_ : Int) =>
 M.ite (decide (x13_ < 1))
 (go2_ (true, ()))
 (M.load (.cell (.int .i64)) 1 ((Addr.mk b0_ 0 none).add 2) fun (x15_ : Int) =>
 M.ite (decide (x15_ > 64))
 (go2_ (true, ()))
 (M.load (.cell (.int .i64)) 1 ((Addr.mk b0_ 0 none).add 3) fun (x17_ : Int) =>
 go2_ ((decide (x17_ < 0)), ())))))
def f54c1 (X : Task → M Value) (L : LoopI) (b0_ : Nat) : M (Value) :=
 M.join (fun (j1_ : (Bool) × Unit) =>
 M.ite j1_.1
 (M.pure (.bool false))
 (M.load (.cell (.int .i64)) 1 ((Addr.mk b0_ 0 none).add 0) fun (x3_ : Int) =>
 M.ite (x3_ == 1)
 (M.load (.cell (.int .i64)) 1 ((Addr.mk b0_ 0 none).add 3) fun (x5_ : Int) =>
 M.pure (.bool (decide (x5_ < 34))))
 (M.load (.cell (.int .i64)) 1 ((Addr.mk b0_ 0 none).add 3) fun (x7_ : Int) =>
 M.pure (.bool (x7_ == 0))))) fun go2_ =>
 M.load (.cell (.int .i64)) 1 ((Addr.mk b0_ 0 none).add 0) fun (x9_ : Int) =>
 f54c0 X L b0_ go2_ (decide (x9_ < 1))
def f54 (X : Task → M Value) (L : LoopI) (x : (Int × Bool × Int × Int × Unit) × Unit) : M Value :=
 M.new (.cells (Row.ofList [(.int .i64 x.1.1), (.bool x.1.2.1), (.int .i64 x.1.2.2.1), (.int .i64 x.1.2.2.2.1)]) 58 false (0, 0) false) fun b0_ =>
 f54c1 X L b0_

theorem e54 (X : Task → M Value) (L : LoopI) (x : (Int × Bool × Int × Int × Unit) × Unit) : evBody CC { call := X, loop := L } 54 (shsInj [(.agg [(.int .i64), .bool, (.int .i64), (.int .i64)])] x) = f54 X L x := by kernel_rfl

/-- hayrick/summary.Address -/
def f55c0 (X : Task → M Value) (L : LoopI) (x : (Int) × (Int) × (Int) × Unit) : M (Value) :=
 M.join (fun (j0_ : (Bool) × Unit) =>
 M.ite j0_.1
 (M.pure (.tuple ⟨[(.int .u32 0), (.int .i64 1)]⟩))
 (M.callS (.one (.cell (.int .i64))) (X (.call 67 [(.int .i64 x.1)])) fun (r4_ : Int) =>
 M.pure (.tuple ⟨[(.int .u32 (IntKind.u32.wrap (IntKind.i64.wrap ((IntKind.i64.wrap ((IntKind.i64.wrap ((IntKind.i64.wrap ((IntKind.i64.wrap (x.2.1 * 4)) * x.1)) + r4_)) + x.2.2.1)) + 1)))), (.int .i64 0)]⟩))) fun go1_ =>
 M.callS (.one (.cell .bool)) (X (.call 100 [(.int .i64 x.1)])) fun (r9_ : Bool) =>
 M.ite (!r9_)
 (go1_ (true, ()))
 (M.ite (decide (x.2.1 < 0))
 (go1_ (true, ()))
 (M.ite (decide (x.2.1 ≥ 128))
 (go1_ (true, ()))
 (M.ite (decide (x.2.2.1 < 0))
 (go1_ (true, ()))
 (M.callS (.one (.cell (.int .i64))) (X (.call 58 [(.int .i64 x.1)])) fun (r14_ : Int) =>
 go1_ ((decide (x.2.2.1 ≥ r14_)), ())))))
def f55 (X : Task → M Value) (L : LoopI) (x : (Int) × (Int) × (Int) × Unit) : M Value :=
 f55c0 X L x

theorem e55 (X : Task → M Value) (L : LoopI) (x : (Int) × (Int) × (Int) × Unit) : evBody CC { call := X, loop := L } 55 (shsInj [(.cell (.int .i64)), (.cell (.int .i64)), (.cell (.int .i64))] x) = f55 X L x := by kernel_rfl

/-- (*hayrick/logs.Log).k -/
def f56 (X : Task → M Value) (L : LoopI) (x : (Option Addr) × Unit) : M Value :=
 M.deref x.1 fun a0_ =>
 M.load (.cell .ptr) 1 (a0_.add 0) fun (x1_ : Option Addr) =>
 M.callS (.one (.agg [(.int .i64), (.int .i64), (.int .i64)])) (X (.call 74 [(.pointer x1_)])) fun (r2_ : Int × Int × Int × Unit) =>
 M.pure (.int .i64 r2_.1)

theorem e56 (X : Task → M Value) (L : LoopI) (x : (Option Addr) × Unit) : evBody CC { call := X, loop := L } 56 (shsInj [(.cell .ptr)] x) = f56 X L x := by kernel_rfl

/-- bytes.Clone -/
def f57 (X : Task → M Value) (L : LoopI) (x : ((Option Addr × Nat × Nat)) × Unit) : M Value :=
 M.ite x.1.1.isNone
 (M.pure (.slice none 0 0))
 (M.new (.cells (Row.ofList []) 5 false (0, 0) false) fun b0_ =>
 M.append 5 1 1 (some (Addr.mk b0_ 0 none)) 0 0 (.slice x.1.1 x.1.2.1 x.1.2.2) fun a1_ n2_ c3_ =>
 M.pure (.slice a1_ n2_ c3_))

theorem e57 (X : Task → M Value) (L : LoopI) (x : ((Option Addr × Nat × Nat)) × Unit) : evBody CC { call := X, loop := L } 57 (shsInj [(.cell .slice)] x) = f57 X L x := by kernel_rfl

/-- hayrick/summary.Cap -/
def f58 (X : Task → M Value) (L : LoopI) (x : (Int) × Unit) : M Value :=
 M.callS (.one (.cell .bool)) (X (.call 100 [(.int .i64 x.1)])) fun (r0_ : Bool) =>
 M.ite (!r0_)
 (M.pure (.int .i64 0))
 (M.callS (.one (.cell (.int .i64))) (X (.call 67 [(.int .i64 x.1)])) fun (r3_ : Int) =>
 M.pure (.int .i64 (IntKind.i64.wrap ((IntKind.i64.wrap (4 * x.1)) - r3_))))

theorem e58 (X : Task → M Value) (L : LoopI) (x : (Int) × Unit) : evBody CC { call := X, loop := L } 58 (shsInj [(.cell (.int .i64))] x) = f58 X L x := by kernel_rfl

/-- (*hayrick/logs.Log).out -/
def f59c0 (X : Task → M Value) (L : LoopI) (v9_ : Int) (b10_ : Nat) (x13_ : (Option Addr × Nat × Nat)) (s15_ : (Int) × (Int) × Unit) : M (((Int) × (Int) × Unit) ⊕ ((Unit) ⊕ (Unit))) :=
 M.guard (decide (0 ≤ s15_.2.1) && decide (s15_.2.1 < ((x13_.2.1 : Nat) : Int)))
 (M.deref x13_.1 fun a17_ =>
 M.load (.cell .slice) 1 (a17_.add ((Int.toNat s15_.2.1) * 1)) fun (x18_ : (Option Addr × Nat × Nat)) =>
 M.guard (decide (0 ≤ s15_.1) && decide (s15_.1 ≤ (((Int.toNat v9_) : Nat) : Int)))
 (let v19_ : Nat := (Int.toNat s15_.1)
 M.copy 1 (some ((Addr.mk b10_ 0 none).add (v19_ * 1))) ((Int.toNat v9_) - v19_) (.slice x18_.1 x18_.2.1 x18_.2.2) fun m20_ =>
 M.pure (.inl ((IntKind.i64.wrap (s15_.1 + ((m20_ : Nat) : Int))), (IntKind.i64.wrap (s15_.2.1 + 1)), ()))))
def f59c1 (X : Task → M Value) (L : LoopI) (x : (Option Addr) × Unit) (x34_ : (Option Addr × Nat × Nat)) (x36_ : Int) (x38_ : Int) : M (Value) :=
 M.guard (decide (0 ≤ x36_) && decide (x36_ < ((x34_.2.1 : Nat) : Int)))
 (M.deref x34_.1 fun a39_ =>
 M.store (a39_.add ((Int.toNat x36_) * 1)) [(.int .u64 x38_)]
 (M.deref x.1 fun a40_ =>
 M.load (.cell (.int .u64)) 1 (a40_.add 1) fun (x41_ : Int) =>
 M.deref x.1 fun a43_ =>
 M.store (a43_.add 1) [(.int .u64 (IntKind.u64.wrap (x41_ + 1)))]
 (M.deref x.1 fun a44_ =>
 M.store (a44_.add 4) [(.int .i64 (-1))]
 (M.deref x.1 fun a45_ =>
 M.store (a45_.add 5) [(.slice none 0 0)]
 (M.deref x.1 fun a46_ =>
 M.store (a46_.add 6) [(.slice none 0 0)]
 (M.pure (.int .i64 0)))))))
def f59c2 (X : Task → M Value) (L : LoopI) (x : (Option Addr) × Unit) (v9_ : Int) (b10_ : Nat) (x25_ : Option Addr) (x27_ : Int) (x29_ : Int) : M (Value) :=
 M.callS (.one (.cell (.int .i64))) (X (.call 102 [(.pointer x25_), (.int .i64 x27_), (.int .u64 x29_), (.slice (some (Addr.mk b10_ 0 none)) (Int.toNat v9_) (Int.toNat v9_))])) fun (r30_ : Int) =>
 M.ite (!(r30_ == 0))
 (M.callS (.one (.cell (.int .i64))) (X (.call 62 [(.pointer x.1), (.int .i64 r30_)])) fun (r32_ : Int) =>
 M.pure (.int .i64 r32_))
 (M.deref x.1 fun a33_ =>
 M.load (.cell .slice) 1 (a33_.add 2) fun (x34_ : (Option Addr × Nat × Nat)) =>
 M.deref x.1 fun a35_ =>
 M.load (.cell (.int .i64)) 1 (a35_.add 4) fun (x36_ : Int) =>
 M.deref x.1 fun a37_ =>
 M.load (.cell (.int .u64)) 1 (a37_.add 1) fun (x38_ : Int) =>
 f59c1 X L x x34_ x36_ x38_)
def f59c3 (X : Task → M Value) (L : LoopI) (x : (Option Addr) × Unit) (v9_ : Int) (b10_ : Nat) (m11_ : Nat) (x13_ : (Option Addr × Nat × Nat)) (v14_ : Int) : M (Value) :=
 M.bind (L (σ := (Int) × (Int) × Unit) (ρ := (Unit) ⊕ (Unit)) (fun s15_ =>
 M.ite (decide (s15_.2.1 < v14_))
 (f59c0 X L v9_ b10_ x13_ s15_)
 (M.pure (.inr (.inl (()))))) (((m11_ : Nat) : Int), 0, ())) <| M.sum (fun (j23_ : Unit) =>
 M.deref x.1 fun a24_ =>
 M.load (.cell .ptr) 1 (a24_.add 0) fun (x25_ : Option Addr) =>
 M.deref x.1 fun a26_ =>
 M.load (.cell (.int .i64)) 1 (a26_.add 4) fun (x27_ : Int) =>
 M.deref x.1 fun a28_ =>
 M.load (.cell (.int .u64)) 1 (a28_.add 1) fun (x29_ : Int) =>
 f59c2 X L x v9_ b10_ x25_ x27_ x29_) (fun _ => M.stuck)
def f59c4 (X : Task → M Value) (L : LoopI) (x : (Option Addr) × Unit) (r3_ : Int) (r6_ : ((Option Addr × Nat × Nat)) × (Int) × Unit) (v7_ : Bool) : M (Value) :=
 M.ite v7_
 (M.callS (.one (.cell (.int .i64))) (X (.call 62 [(.pointer x.1), (.int .i64 r6_.2.1)])) fun (r8_ : Int) =>
 M.pure (.int .i64 r8_))
 (let v9_ : Int := IntKind.i64.wrap (r3_ * 448)
 M.guard (decide (0 ≤ v9_) && decide (v9_ ≤ v9_) && decide ((1 : Int) * v9_ ≤ 2 ^ 48))
 (M.new (.cells (Row.rep [(.int .u8 0)] (Int.toNat v9_)) 5 false (0, 0) false) fun b10_ =>
 M.copy 1 (some (Addr.mk b10_ 0 none)) (Int.toNat v9_) (.slice r6_.1.1 r6_.1.2.1 r6_.1.2.2) fun m11_ =>
 M.deref x.1 fun a12_ =>
 M.load (.cell .slice) 1 (a12_.add 6) fun (x13_ : (Option Addr × Nat × Nat)) =>
 f59c3 X L x v9_ b10_ m11_ x13_ ((x13_.2.1 : Nat) : Int)))
def f59c5 (X : Task → M Value) (L : LoopI) (x : (Option Addr) × Unit) (a0_ : Addr) : M (Value) :=
 M.load (.cell (.int .i64)) 1 (a0_.add 4) fun (x1_ : Int) =>
 M.ite (decide (x1_ < 0))
 (M.pure (.int .i64 0))
 (M.callS (.one (.cell (.int .i64))) (X (.call 56 [(.pointer x.1)])) fun (r3_ : Int) =>
 M.deref x.1 fun a4_ =>
 M.load (.cell .slice) 1 (a4_.add 5) fun (x5_ : (Option Addr × Nat × Nat)) =>
 M.callS (.tuple [(.cell .slice), (.cell (.int .i64))]) (X (.call 101 [(.int .i64 r3_), (.slice x5_.1 x5_.2.1 x5_.2.2)])) fun (r6_ : ((Option Addr × Nat × Nat)) × (Int) × Unit) =>
 f59c4 X L x r3_ r6_ (!(r6_.2.1 == 0)))
def f59 (X : Task → M Value) (L : LoopI) (x : (Option Addr) × Unit) : M Value :=
 M.deref x.1 fun a0_ =>
 f59c5 X L x a0_

theorem e59 (X : Task → M Value) (L : LoopI) (x : (Option Addr) × Unit) : evBody CC { call := X, loop := L } 59 (shsInj [(.cell .ptr)] x) = f59 X L x := by kernel_rfl

/-- bytes.Repeat -/
def f60c0 (X : Task → M Value) (L : LoopI) (j14_ : (Int) × Unit) (b16_ : Nat) (v17_ : Nat) (v18_ : Nat) (s20_ : (Int) × Unit) : M (((Int) × Unit) ⊕ ((Unit) ⊕ (Unit))) :=
 let v22_ : Int := (if j14_.1 < s20_.1 then j14_.1 else s20_.1)
 M.guard (decide (0 ≤ s20_.1) && decide (s20_.1 ≤ (((v18_ - 0) : Nat) : Int)))
 (let v23_ : Nat := (Int.toNat s20_.1)
 M.guard (decide (0 ≤ v22_) && decide (v22_ ≤ (((v17_ - 0) : Nat) : Int)))
 (M.copy 1 (some (((Addr.mk b16_ 0 none).add (0 * 1)).add (v23_ * 1))) ((v18_ - 0) - v23_) (.slice (some (((Addr.mk b16_ 0 none).add (0 * 1)).add (0 * 1))) ((Int.toNat v22_) - 0) ((v17_ - 0) - 0)) fun m25_ =>
 M.pure (.inl ((IntKind.i64.wrap (s20_.1 + ((m25_ : Nat) : Int))), ()))))
def f60c1 (X : Task → M Value) (L : LoopI) (x : ((Option Addr × Nat × Nat)) × (Int) × Unit) (v10_ : Int) (j14_ : (Int) × Unit) (b16_ : Nat) : M (Value) :=
 M.guard (decide (0 ≤ v10_) && decide (v10_ ≤ (((Int.toNat v10_) : Nat) : Int)))
 (let v17_ : Nat := (Int.toNat v10_)
 M.guard (decide (0 ≤ v10_) && decide (v10_ ≤ ((v17_ : Nat) : Int)))
 (let v18_ : Nat := (Int.toNat v10_)
 M.copy 1 (some ((Addr.mk b16_ 0 none).add (0 * 1))) (v18_ - 0) (.slice x.1.1 x.1.2.1 x.1.2.2) fun m19_ =>
 M.bind (L (σ := (Int) × Unit) (ρ := (Unit) ⊕ (Unit)) (fun s20_ =>
 M.ite (decide (s20_.1 < v10_))
 (f60c0 X L j14_ b16_ v17_ v18_ s20_)
 (M.pure (.inr (.inl (()))))) (((m19_ : Nat) : Int), ())) <| M.sum (fun (j27_ : Unit) =>
 M.pure (.slice (some ((Addr.mk b16_ 0 none).add (0 * 1))) (v18_ - 0) (v17_ - 0))) (fun _ => M.stuck)))
def f60c2 (X : Task → M Value) (L : LoopI) (x : ((Option Addr × Nat × Nat)) × (Int) × Unit) (v10_ : Int) : M (Value) :=
 M.join (fun (j14_ : (Int) × Unit) =>
 cond (decide (0 ≤ v10_) && decide (v10_ ≤ 2 ^ 48)) (M.new (.cells (Row.full undef (Int.toNat v10_)) 5 true (0, 0) false) fun b16_ =>
 f60c1 X L x v10_ j14_ b16_) M.stuck) fun go15_ =>
 M.ite (decide (v10_ > 8192))
 (let v29_ : Int := ((x.1.2.1 : Nat) : Int)
 M.guard (!(decide (v29_ = 0)))
 (let v32_ : Int := IntKind.i64.wrap ((IntKind.i64.wrap ((8192 : Int).tdiv v29_)) * ((x.1.2.1 : Nat) : Int))
 M.ite (v32_ == 0)
 (go15_ (((x.1.2.1 : Nat) : Int), ()))
 (go15_ (v32_, ()))))
 (go15_ (v10_, ()))
def f60c3 (X : Task → M Value) (L : LoopI) (x : ((Option Addr × Nat × Nat)) × (Int) × Unit) (v5_ : Int) (v6_ : Int) : M (Value) :=
 M.callS (.tuple [(.cell (.int .u64)), (.cell (.int .u64))]) (X (.call 103 [(.int .u64 v5_), (.int .u64 v6_)])) fun (r7_ : (Int) × (Int) × Unit) =>
 M.join (fun (j8_ : Unit) =>
 M.ite (((x.1.2.1 : Nat) : Int) == 0)
 (M.new (.cells (Row.ofList []) 5 false (0, 0) false) fun b13_ =>
 M.pure (.slice (some (Addr.mk b13_ 0 none)) 0 0))
 (f60c2 X L x (IntKind.i64.wrap r7_.2.1))) fun go9_ =>
 M.join (fun (j35_ : (Bool) × Unit) =>
 M.ite j35_.1
 (M.throw (.iface 9 (.string st2)))
 (go9_ (()))) fun go36_ =>
 M.ite (decide (r7_.1 > 0))
 (go36_ (true, ()))
 (go36_ ((decide (r7_.2.1 > 9223372036854775807)), ()))
def f60 (X : Task → M Value) (L : LoopI) (x : ((Option Addr × Nat × Nat)) × (Int) × Unit) : M Value :=
 M.ite (x.2.1 == 0)
 (M.new (.cells (Row.ofList []) 5 false (0, 0) false) fun b1_ =>
 M.pure (.slice (some (Addr.mk b1_ 0 none)) 0 0))
 (M.join (fun (j2_ : Unit) =>
 f60c3 X L x (IntKind.u64.wrap ((x.1.2.1 : Nat) : Int)) (IntKind.u64.wrap x.2.1)) fun go3_ =>
 M.ite (decide (x.2.1 < 0))
 (M.throw (.iface 9 (.string st3)))
 (go3_ (())))

theorem e60 (X : Task → M Value) (L : LoopI) (x : ((Option Addr × Nat × Nat)) × (Int) × Unit) : evBody CC { call := X, loop := L } 60 (shsInj [(.cell .slice), (.cell (.int .i64))] x) = f60 X L x := by kernel_rfl

/-- (*hayrick/logs.Log).sure -/
def f62 (X : Task → M Value) (L : LoopI) (x : (Option Addr) × (Int) × Unit) : M Value :=
 M.join (fun (j0_ : Unit) =>
 M.pure (.int .i64 x.2.1)) fun go1_ =>
 M.deref x.1 fun a2_ =>
 M.load (.cell .bool) 1 (a2_.add 7) fun (x3_ : Bool) =>
 M.ite x3_
 (M.deref x.1 fun a4_ =>
 M.store (a4_.add 7) [(.bool true)]
 (go1_ (())))
 (M.deref x.1 fun a6_ =>
 M.store (a6_.add 7) [(.bool (!(x.2.1 == 0)))]
 (go1_ (())))

theorem e62 (X : Task → M Value) (L : LoopI) (x : (Option Addr) × (Int) × Unit) : evBody CC { call := X, loop := L } 62 (shsInj [(.cell .ptr), (.cell (.int .i64))] x) = f62 X L x := by kernel_rfl

/-- (*hayrick/logs.Log).Block$1 -/
def f64c0 (X : Task → M Value) (L : LoopI) (x : (Option Addr) × (Option Addr) × (Option Addr) × Unit) (r7_ : (Int) × (Int) × (Int) × Unit) (a14_ : Addr) : M (Value) :=
 M.load (.cell .slice) 1 (a14_.add 6) fun (x15_ : (Option Addr × Nat × Nat)) =>
 M.guard (decide (0 ≤ r7_.2.1) && decide (r7_.2.1 < ((x15_.2.1 : Nat) : Int)))
 (M.deref x15_.1 fun a16_ =>
 M.load (.cell .slice) 1 (a16_.add ((Int.toNat r7_.2.1) * 1)) fun (x17_ : (Option Addr × Nat × Nat)) =>
 M.callS (.one (.cell .slice)) (X (.call 57 [(.slice x17_.1 x17_.2.1 x17_.2.2)])) fun (r18_ : (Option Addr × Nat × Nat)) =>
 M.deref x.2.2.1 fun a19_ =>
 M.store a19_ [(.slice r18_.1 r18_.2.1 r18_.2.2)]
 (M.pure (.int .i64 0)))
def f64c1 (X : Task → M Value) (L : LoopI) (x : (Option Addr) × (Option Addr) × (Option Addr) × Unit) (r24_ : ((Option Addr × Nat × Nat)) × (Int) × Unit) (v31_ : Int) : M (Value) :=
 let v32_ : Int := IntKind.i64.wrap (v31_ + 112)
 M.guard (decide (0 ≤ v32_) && decide (v32_ ≤ ((r24_.1.2.2 : Nat) : Int)))
 (let v33_ : Nat := (Int.toNat v32_)
 M.guard (decide (0 ≤ v31_) && decide (v31_ ≤ ((v33_ : Nat) : Int)))
 (let v34_ : Nat := (Int.toNat v31_)
 M.callS (.one (.cell .slice)) (X (.call 57 [(.slice (r24_.1.1.map (·.add (v34_ * 1))) (v33_ - v34_) (r24_.1.2.2 - v34_))])) fun (r35_ : (Option Addr × Nat × Nat)) =>
 M.deref x.2.2.1 fun a36_ =>
 M.store a36_ [(.slice r35_.1 r35_.2.1 r35_.2.2)]
 (M.pure (.int .i64 0))))
def f64c2 (X : Task → M Value) (L : LoopI) (x : (Option Addr) × (Option Addr) × (Option Addr) × Unit) (r7_ : (Int) × (Int) × (Int) × Unit) (x23_ : Option Addr) : M (Value) :=
 M.callS (.tuple [(.cell .slice), (.cell (.int .i64))]) (X (.call 66 [(.pointer x23_), (.int .i64 r7_.1)])) fun (r24_ : ((Option Addr × Nat × Nat)) × (Int) × Unit) =>
 M.ite (!(r24_.2.1 == 0))
 (M.pure (.int .i64 r24_.2.1))
 (M.deref x.1 fun a26_ =>
 M.load (.cell .ptr) 1 a26_ fun (x27_ : Option Addr) =>
 M.callS (.one (.cell (.int .i64))) (X (.call 56 [(.pointer x27_)])) fun (r28_ : Int) =>
 M.callS (.one (.cell (.int .i64))) (X (.call 67 [(.int .i64 r28_)])) fun (r29_ : Int) =>
 f64c1 X L x r24_ (IntKind.i64.wrap ((IntKind.i64.wrap (r29_ + r7_.2.1)) * 112)))
def f64c3 (X : Task → M Value) (L : LoopI) (x : (Option Addr) × (Option Addr) × (Option Addr) × Unit) (r7_ : (Int) × (Int) × (Int) × Unit) (go21_ : ((Bool) × Unit) → M (Value)) (x38_ : Option Addr) : M (Value) :=
 M.deref x38_ fun a39_ =>
 M.load (.cell (.int .i64)) 1 (a39_.add 4) fun (x40_ : Int) =>
 M.ite (r7_.1 == x40_)
 (go21_ (true, ()))
 (M.deref x.1 fun a42_ =>
 M.load (.cell .ptr) 1 a42_ fun (x43_ : Option Addr) =>
 M.deref x43_ fun a44_ =>
 M.load (.cell .slice) 1 (a44_.add 2) fun (x45_ : (Option Addr × Nat × Nat)) =>
 M.guard (decide (0 ≤ r7_.1) && decide (r7_.1 < ((x45_.2.1 : Nat) : Int)))
 (M.deref x45_.1 fun a46_ =>
 M.load (.cell (.int .u64)) 1 (a46_.add ((Int.toNat r7_.1) * 1)) fun (x47_ : Int) =>
 go21_ ((x47_ == 0), ())))
def f64c4 (X : Task → M Value) (L : LoopI) (x : (Option Addr) × (Option Addr) × (Option Addr) × Unit) (r7_ : (Int) × (Int) × (Int) × Unit) : M (Value) :=
 M.join (fun (j10_ : (Bool) × Unit) =>
 M.ite j10_.1
 (M.deref x.1 fun a12_ =>
 M.load (.cell .ptr) 1 a12_ fun (x13_ : Option Addr) =>
 M.deref x13_ fun a14_ =>
 f64c0 X L x r7_ a14_)
 (M.join (fun (j20_ : (Bool) × Unit) =>
 M.ite j20_.1
 (M.pure (.int .i64 6))
 (M.deref x.1 fun a22_ =>
 M.load (.cell .ptr) 1 a22_ fun (x23_ : Option Addr) =>
 f64c2 X L x r7_ x23_)) fun go21_ =>
 M.deref x.1 fun a37_ =>
 M.load (.cell .ptr) 1 a37_ fun (x38_ : Option Addr) =>
 f64c3 X L x r7_ go21_ x38_)) fun go11_ =>
 M.deref x.1 fun a49_ =>
 M.load (.cell .ptr) 1 a49_ fun (x50_ : Option Addr) =>
 M.deref x50_ fun a51_ =>
 M.load (.cell (.int .i64)) 1 (a51_.add 4) fun (x52_ : Int) =>
 M.ite (r7_.1 == x52_)
 (M.deref x.1 fun a54_ =>
 M.load (.cell .ptr) 1 a54_ fun (x55_ : Option Addr) =>
 M.deref x55_ fun a56_ =>
 M.load (.cell .slice) 1 (a56_.add 6) fun (x57_ : (Option Addr × Nat × Nat)) =>
 go11_ ((decide (r7_.2.1 < ((x57_.2.1 : Nat) : Int))), ()))
 (go11_ (false, ()))
def f64c5 (X : Task → M Value) (L : LoopI) (x : (Option Addr) × (Option Addr) × (Option Addr) × Unit) (x3_ : Int) (r4_ : Int) : M (Value) :=
 M.deref x.2.1 fun a5_ =>
 M.load (.cell (.int .u32)) 1 a5_ fun (x6_ : Int) => cond (veqv (.int .u32 x6_) (.int .u32 x3_)) (M.callS (.tuple [(.cell (.int .i64)), (.cell (.int .i64)), (.cell (.int .i64))]) (X (.call 65 [(.int .i64 r4_), (.int .u32 x3_)])) fun (r7_ : (Int) × (Int) × (Int) × Unit) =>
 M.join (fun (j8_ : (Bool) × Unit) =>
 M.ite j8_.1
 (M.pure (.int .i64 6))
 (f64c4 X L x r7_)) fun go9_ =>
 M.ite (!(r7_.2.2.1 == 0))
 (go9_ (true, ()))
 (M.deref x.1 fun a61_ =>
 M.load (.cell .ptr) 1 a61_ fun (x62_ : Option Addr) =>
 M.deref x62_ fun a63_ =>
 M.load (.cell .slice) 1 (a63_.add 2) fun (x64_ : (Option Addr × Nat × Nat)) =>
 go9_ ((decide (r7_.1 ≥ ((x64_.2.1 : Nat) : Int))), ()))) M.stuck
def f64 (X : Task → M Value) (L : LoopI) (x : (Option Addr) × (Option Addr) × (Option Addr) × Unit) : M Value :=
 M.deref x.1 fun a0_ =>
 M.load (.cell .ptr) 1 a0_ fun (x1_ : Option Addr) =>
 M.deref x.2.1 fun a2_ =>
 M.load (.cell (.int .u32)) 1 a2_ fun (x3_ : Int) =>
 M.callS (.one (.cell (.int .i64))) (X (.call 56 [(.pointer x1_)])) fun (r4_ : Int) =>
 f64c5 X L x x3_ r4_

theorem e64 (X : Task → M Value) (L : LoopI) (x : (Option Addr) × (Option Addr) × (Option Addr) × Unit) : evBody CC { call := X, loop := L } 64 (shsInj [(.cell .ptr), (.cell .ptr), (.cell .ptr)] x) = f64 X L x := by kernel_rfl

/-- hayrick/summary.Where -/
def f65c0 (X : Task → M Value) (L : LoopI) (x : (Int) × (Int) × Unit) (v6_ : Int) (v8_ : Int) (v9_ : Int) : M (Value) :=
 M.guard (!(decide (v9_ = 0)))
 (let v10_ : Int := (v8_ : Int).tmod v9_
 M.join (fun (j11_ : (Bool) × Unit) =>
 M.ite j11_.1
 (M.pure (.tuple ⟨[(.int .i64 0), (.int .i64 0), (.int .i64 6)]⟩))
 (M.callS (.one (.cell (.int .i64))) (X (.call 67 [(.int .i64 x.1)])) fun (r13_ : Int) =>
 M.pure (.tuple ⟨[(.int .i64 v6_), (.int .i64 (IntKind.i64.wrap (v10_ - r13_))), (.int .i64 0)]⟩))) fun go12_ =>
 M.ite (decide (v6_ ≥ 128))
 (go12_ (true, ()))
 (M.callS (.one (.cell (.int .i64))) (X (.call 67 [(.int .i64 x.1)])) fun (r16_ : Int) =>
 go12_ ((decide (v10_ < r16_)), ())))
def f65c1 (X : Task → M Value) (L : LoopI) (x : (Int) × (Int) × Unit) : M (Value) :=
 M.callS (.one (.cell .bool)) (X (.call 100 [(.int .i64 x.1)])) fun (r0_ : Bool) =>
 M.ite (!r0_)
 (M.pure (.tuple ⟨[(.int .i64 0), (.int .i64 0), (.int .i64 1)]⟩))
 (M.ite (x.2.1 == 0)
 (M.pure (.tuple ⟨[(.int .i64 0), (.int .i64 0), (.int .i64 6)]⟩))
 (let v5_ : Int := IntKind.i64.wrap (4 * x.1)
 M.guard (!(decide (v5_ = 0)))
 (f65c0 X L x (IntKind.i64.wrap (((IntKind.i64.wrap (IntKind.u32.wrap (x.2.1 - 1))) : Int).tdiv v5_)) (IntKind.i64.wrap (IntKind.u32.wrap (x.2.1 - 1))) (IntKind.i64.wrap (4 * x.1)))))
def f65 (X : Task → M Value) (L : LoopI) (x : (Int) × (Int) × Unit) : M Value :=
 f65c1 X L x

theorem e65 (X : Task → M Value) (L : LoopI) (x : (Int) × (Int) × Unit) : evBody CC { call := X, loop := L } 65 (shsInj [(.cell (.int .i64)), (.cell (.int .u32))] x) = f65 X L x := by kernel_rfl

/-- (*hayrick/logs.Log).segment -/
def f66c0 (X : Task → M Value) (L : LoopI) (x : (Option Addr) × (Int) × Unit) (x1_ : Option Addr) (a2_ : Addr) : M (Value) :=
 M.load (.cell .slice) 1 (a2_.add 2) fun (x3_ : (Option Addr × Nat × Nat)) =>
 M.guard (decide (0 ≤ x.2.1) && decide (x.2.1 < ((x3_.2.1 : Nat) : Int)))
 (M.deref x3_.1 fun a4_ =>
 M.load (.cell (.int .u64)) 1 (a4_.add ((Int.toNat x.2.1) * 1)) fun (x5_ : Int) =>
 M.callS (.tuple [(.cell .slice), (.cell (.int .i64))]) (X (.call 107 [(.pointer x1_), (.int .i64 x.2.1), (.int .u64 x5_)])) fun (r6_ : ((Option Addr × Nat × Nat)) × (Int) × Unit) =>
 M.pure (.tuple ⟨[(.slice r6_.1.1 r6_.1.2.1 r6_.1.2.2), (.int .i64 r6_.2.1)]⟩))
def f66 (X : Task → M Value) (L : LoopI) (x : (Option Addr) × (Int) × Unit) : M Value :=
 M.deref x.1 fun a0_ =>
 M.load (.cell .ptr) 1 (a0_.add 0) fun (x1_ : Option Addr) =>
 M.deref x.1 fun a2_ =>
 f66c0 X L x x1_ a2_

theorem e66 (X : Task → M Value) (L : LoopI) (x : (Option Addr) × (Int) × Unit) : evBody CC { call := X, loop := L } 66 (shsInj [(.cell .ptr), (.cell (.int .i64))] x) = f66 X L x := by kernel_rfl

/-- hayrick/summary.Sum -/
def f67 (X : Task → M Value) (L : LoopI) (x : (Int) × Unit) : M Value :=
 M.callS (.one (.cell .bool)) (X (.call 100 [(.int .i64 x.1)])) fun (r0_ : Bool) =>
 M.ite (!r0_)
 (M.pure (.int .i64 0))
 (M.guard (!(decide (15 = 0)))
 (M.pure (.int .i64 (IntKind.i64.wrap (((IntKind.i64.wrap ((IntKind.i64.wrap (4 * x.1)) + 14)) : Int).tdiv 15)))))

theorem e67 (X : Task → M Value) (L : LoopI) (x : (Int) × Unit) : evBody CC { call := X, loop := L } 67 (shsInj [(.cell (.int .i64))] x) = f67 X L x := by kernel_rfl

/-- hayrick/logs.slots -/
def f72c0 (X : Task → M Value) (L : LoopI) (x : ((Option Addr × Nat × Nat)) × (Int) × (Int) × Unit) (b0_ : Nat) (s2_ : (Int) × Unit) (x5_ : Int) : M (((Int) × Unit) ⊕ ((Unit) ⊕ (((Bool) × Unit) ⊕ (Unit)))) :=
 M.join (fun (j6_ : (Bool) × Unit) =>
 M.ite j6_.1
 (M.pure (.inr (.inr (.inl (false, ())))))
 (M.guard (decide (0 ≤ x5_) && decide (x5_ < (((Int.toNat x.2.1) : Nat) : Int)))
 (M.store ((Addr.mk b0_ 0 none).add ((Int.toNat x5_) * 1)) [(.bool true)]
 (M.pure (.inl ((IntKind.i64.wrap (s2_.1 + 1)), ())))))) fun go7_ =>
 M.ite (decide (x5_ < 0))
 (go7_ (true, ()))
 (M.ite (decide (x5_ ≥ x.2.1))
 (go7_ (true, ()))
 (M.guard (decide (0 ≤ x5_) && decide (x5_ < (((Int.toNat x.2.1) : Nat) : Int)))
 (M.load (.cell .bool) 1 ((Addr.mk b0_ 0 none).add ((Int.toNat x5_) * 1)) fun (x11_ : Bool) =>
 M.ite x11_
 (go7_ (true, ()))
 (go7_ ((x5_ == x.2.2.1), ())))))
def f72c1 (X : Task → M Value) (L : LoopI) (x : ((Option Addr × Nat × Nat)) × (Int) × (Int) × Unit) (b0_ : Nat) : M (Value) :=
 M.bind (L (σ := (Int) × Unit) (ρ := (Unit) ⊕ (((Bool) × Unit) ⊕ (Unit))) (fun s2_ =>
 M.ite (decide (s2_.1 < ((x.1.2.1 : Nat) : Int)))
 (M.guard (decide (0 ≤ s2_.1) && decide (s2_.1 < ((x.1.2.1 : Nat) : Int)))
 (M.deref x.1.1 fun a4_ =>
 M.load (.cell (.int .i64)) 1 (a4_.add ((Int.toNat s2_.1) * 1)) fun (x5_ : Int) =>
 f72c0 X L x b0_ s2_ x5_))
 (M.pure (.inr (.inl (()))))) (0, ())) <| M.sum (fun (j13_ : Unit) =>
 M.pure (.bool true)) (M.sum (fun (j14_ : (Bool) × Unit) =>
 M.pure (.bool j14_.1)) (fun _ => M.stuck))
def f72 (X : Task → M Value) (L : LoopI) (x : ((Option Addr × Nat × Nat)) × (Int) × (Int) × Unit) : M Value :=
 M.guard (decide (0 ≤ x.2.1) && decide (x.2.1 ≤ x.2.1) && decide ((1 : Int) * x.2.1 ≤ 2 ^ 48))
 (M.new (.cells (Row.rep [(.bool false)] (Int.toNat x.2.1)) 4 false (0, 0) false) fun b0_ =>
 f72c1 X L x b0_)

theorem e72 (X : Task → M Value) (L : LoopI) (x : ((Option Addr × Nat × Nat)) × (Int) × (Int) × Unit) : evBody CC { call := X, loop := L } 72 (shsInj [(.cell .slice), (.cell (.int .i64)), (.cell (.int .i64))] x) = f72 X L x := by kernel_rfl

/-- hayrick/logs.rising -/
def f73 (X : Task → M Value) (L : LoopI) (x : ((Option Addr × Nat × Nat)) × Unit) : M Value :=
 M.callS (.one (.cell .slice)) (X (.call 109 [(.slice x.1.1 x.1.2.1 x.1.2.2)])) fun (r0_ : (Option Addr × Nat × Nat)) =>
 M.callS (.tuple []) (X (.call 110 [(.slice r0_.1 r0_.2.1 r0_.2.2)])) fun (r1_ : Unit) =>
 M.pure (.slice r0_.1 r0_.2.1 r0_.2.2)

theorem e73 (X : Task → M Value) (L : LoopI) (x : ((Option Addr × Nat × Nat)) × Unit) : evBody CC { call := X, loop := L } 73 (shsInj [(.cell .slice)] x) = f73 X L x := by kernel_rfl

/-- (*hayrick/stripe.Stripes).Geometry -/
def f74c0 (X : Task → M Value) (L : LoopI) (x : (Option Addr) × Unit) (b0_ : Nat) (q1_ : Bool) : M (Value) :=
 M.ite q1_
 (M.store (Addr.mk b0_ 0 none) [(.int .i64 0), (.int .i64 0), (.int .i64 0)]
 (M.load (.agg [(.int .i64), (.int .i64), (.int .i64)]) 3 (Addr.mk b0_ 0 none) fun (x2_ : Int × Int × Int × Unit) =>
 M.pure (.agg ⟨[(.int .i64 x2_.1), (.int .i64 x2_.2.1), (.int .i64 x2_.2.2.1)]⟩)))
 (M.deref x.1 fun a3_ =>
 M.load (.agg [(.int .i64), (.int .i64), (.int .i64)]) 3 (a3_.add 1) fun (x4_ : Int × Int × Int × Unit) =>
 M.store (Addr.mk b0_ 0 none) [(.int .i64 x4_.1), (.int .i64 x4_.2.1), (.int .i64 x4_.2.2.1)]
 (M.load (.agg [(.int .i64), (.int .i64), (.int .i64)]) 3 (Addr.mk b0_ 0 none) fun (x5_ : Int × Int × Int × Unit) =>
 M.pure (.agg ⟨[(.int .i64 x5_.1), (.int .i64 x5_.2.1), (.int .i64 x5_.2.2.1)]⟩)))
def f74 (X : Task → M Value) (L : LoopI) (x : (Option Addr) × Unit) : M Value :=
 M.new (.cells (Row.ofList [(.int .i64 0), (.int .i64 0), (.int .i64 0)]) 127 false (0, 0) false) fun b0_ =>
 M.eqPtr x.1 none fun (q1_ : Bool) =>
 f74c0 X L x b0_ q1_

theorem e74 (X : Task → M Value) (L : LoopI) (x : (Option Addr) × Unit) : evBody CC { call := X, loop := L } 74 (shsInj [(.cell .ptr)] x) = f74 X L x := by kernel_rfl

/-- slices.Clone[[]uint64,uint64] -/
def f75 (X : Task → M Value) (L : LoopI) (x : ((Option Addr × Nat × Nat)) × Unit) : M Value :=
 M.ite x.1.1.isNone
 (M.pure (.slice none 0 0))
 (M.new (.cells (Row.ofList []) 75 false (0, 0) false) fun b0_ =>
 M.append 75 1 8 (some (Addr.mk b0_ 0 none)) 0 0 (.slice x.1.1 x.1.2.1 x.1.2.2) fun a1_ n2_ c3_ =>
 M.pure (.slice a1_ n2_ c3_))

theorem e75 (X : Task → M Value) (L : LoopI) (x : ((Option Addr × Nat × Nat)) × Unit) : evBody CC { call := X, loop := L } 75 (shsInj [(.cell .slice)] x) = f75 X L x := by kernel_rfl

/-- hayrick/files.bare -/
def f77c0 (X : Task → M Value) (L : LoopI) (b1_ : Nat) : M (Value) :=
 M.load (.agg [(.int .i64), (.int .i64), (.int .i64), (.int .i64), (.int .u32), (.int .u32), (.int .u32), (.int .u32), (.int .u32), (.int .u32), (.int .u32)]) 11 (Addr.mk b1_ 0 none) fun (x5_ : Int × Int × Int × Int × Int × Int × Int × Int × Int × Int × Int × Unit) =>
 M.pure (.agg ⟨[(.int .i64 x5_.1), (.int .i64 x5_.2.1), (.int .i64 x5_.2.2.1), (.int .i64 x5_.2.2.2.1), (.int .u32 x5_.2.2.2.2.1), (.int .u32 x5_.2.2.2.2.2.1), (.int .u32 x5_.2.2.2.2.2.2.1), (.int .u32 x5_.2.2.2.2.2.2.2.1), (.int .u32 x5_.2.2.2.2.2.2.2.2.1), (.int .u32 x5_.2.2.2.2.2.2.2.2.2.1), (.int .u32 x5_.2.2.2.2.2.2.2.2.2.2.1)]⟩)
def f77c1 (X : Task → M Value) (L : LoopI) (x : (Int × Int × Int × Int × Int × Int × Int × Int × Int × Int × Int × Unit) × (Int) × Unit) (b0_ : Nat) : M (Value) :=
 M.new (.cells (Row.ofList [(.int .i64 0), (.int .i64 0), (.int .i64 0), (.int .i64 0), (.int .u32 0), (.int .u32 0), (.int .u32 0), (.int .u32 0), (.int .u32 0), (.int .u32 0), (.int .u32 0)]) 34 false (0, 0) false) fun b1_ =>
 M.load (.cell (.int .i64)) 1 ((Addr.mk b0_ 0 none).add 0) fun (x2_ : Int) =>
 M.load (.cell (.int .i64)) 1 ((Addr.mk b0_ 0 none).add 1) fun (x3_ : Int) =>
 M.load (.cell (.int .i64)) 1 ((Addr.mk b0_ 0 none).add 3) fun (x4_ : Int) =>
 M.store (Addr.mk b1_ 0 none) [(.int .i64 x2_), (.int .i64 x3_), (.int .i64 x.2.1), (.int .i64 x4_), (.int .u32 0), (.int .u32 0), (.int .u32 0), (.int .u32 0), (.int .u32 0), (.int .u32 0), (.int .u32 0)]
 (f77c0 X L b1_)
def f77 (X : Task → M Value) (L : LoopI) (x : (Int × Int × Int × Int × Int × Int × Int × Int × Int × Int × Int × Unit) × (Int) × Unit) : M Value :=
 M.new (.cells (Row.ofList [(.int .i64 x.1.1), (.int .i64 x.1.2.1), (.int .i64 x.1.2.2.1), (.int .i64 x.1.2.2.2.1), (.int .u32 x.1.2.2.2.2.1), (.int .u32 x.1.2.2.2.2.2.1), (.int .u32 x.1.2.2.2.2.2.2.1), (.int .u32 x.1.2.2.2.2.2.2.2.1), (.int .u32 x.1.2.2.2.2.2.2.2.2.1), (.int .u32 x.1.2.2.2.2.2.2.2.2.2.1), (.int .u32 x.1.2.2.2.2.2.2.2.2.2.2.1)]) 34 false (0, 0) false) fun b0_ =>
 f77c1 X L x b0_

theorem e77 (X : Task → M Value) (L : LoopI) (x : (Int × Int × Int × Int × Int × Int × Int × Int × Int × Int × Int × Unit) × (Int) × Unit) : evBody CC { call := X, loop := L } 77 (shsInj [(.agg [(.int .i64), (.int .i64), (.int .i64), (.int .i64), (.int .u32), (.int .u32), (.int .u32), (.int .u32), (.int .u32), (.int .u32), (.int .u32)]), (.cell (.int .i64))] x) = f77 X L x := by kernel_rfl

/-- hayrick/inode.Blocks -/
def f78 (X : Task → M Value) (L : LoopI) (x : (Int) × Unit) : M Value :=
 M.ite (decide (x.1 ≤ 0))
 (M.pure (.int .i64 0))
 (M.guard (!(decide (112 = 0)))
 (M.pure (.int .i64 (IntKind.i64.wrap ((IntKind.i64.wrap (((IntKind.i64.wrap (x.1 - 1)) : Int).tdiv 112)) + 1)))))

theorem e78 (X : Task → M Value) (L : LoopI) (x : (Int) × Unit) : evBody CC { call := X, loop := L } 78 (shsInj [(.cell (.int .i64))] x) = f78 X L x := by kernel_rfl

/-- hayrick/files.save -/
def f79c0 (X : Task → M Value) (L : LoopI) (x : (Option Addr) × (Int × Int × Int × Int × Int × Int × Int × Int × Int × Int × Int × Unit) × ((Option Addr × Nat × Nat)) × (Bool) × Unit) (b0_ : Nat) : M (Value) :=
 M.load (.agg [(.int .i64), (.int .i64), (.int .i64), (.int .i64), (.int .u32), (.int .u32), (.int .u32), (.int .u32), (.int .u32), (.int .u32), (.int .u32)]) 11 (Addr.mk b0_ 0 none) fun (x6_ : Int × Int × Int × Int × Int × Int × Int × Int × Int × Int × Int × Unit) =>
 M.callS (.one (.cell (.int .i64))) (X (.call 8 [(.pointer x.1), (.agg ⟨[(.int .i64 x6_.1), (.int .i64 x6_.2.1), (.int .i64 x6_.2.2.1), (.int .i64 x6_.2.2.2.1), (.int .u32 x6_.2.2.2.2.1), (.int .u32 x6_.2.2.2.2.2.1), (.int .u32 x6_.2.2.2.2.2.2.1), (.int .u32 x6_.2.2.2.2.2.2.2.1), (.int .u32 x6_.2.2.2.2.2.2.2.2.1), (.int .u32 x6_.2.2.2.2.2.2.2.2.2.1), (.int .u32 x6_.2.2.2.2.2.2.2.2.2.2.1)]⟩), (.bool x.2.2.2.1)])) fun (r7_ : Int) =>
 M.pure (.int .i64 r7_)
def f79c1 (X : Task → M Value) (L : LoopI) (x : (Option Addr) × (Int × Int × Int × Int × Int × Int × Int × Int × Int × Int × Int × Unit) × ((Option Addr × Nat × Nat)) × (Bool) × Unit) (b0_ : Nat) (j1_ : (Int) × Unit) (r4_ : (Int × Int × Int × Int × Int × Int × Int × Int × Int × Int × Int × Unit) × ((Option Addr × Nat × Nat)) × (Int) × Unit) : M (Value) :=
 M.store (Addr.mk b0_ 0 none) [(.int .i64 r4_.1.1), (.int .i64 r4_.1.2.1), (.int .i64 r4_.1.2.2.1), (.int .i64 r4_.1.2.2.2.1), (.int .u32 r4_.1.2.2.2.2.1), (.int .u32 r4_.1.2.2.2.2.2.1), (.int .u32 r4_.1.2.2.2.2.2.2.1), (.int .u32 r4_.1.2.2.2.2.2.2.2.1), (.int .u32 r4_.1.2.2.2.2.2.2.2.2.1), (.int .u32 r4_.1.2.2.2.2.2.2.2.2.2.1), (.int .u32 r4_.1.2.2.2.2.2.2.2.2.2.2.1)]
 (M.ite (!(r4_.2.2.1 == 0))
 (M.pure (.int .i64 r4_.2.2.1))
 (M.store ((Addr.mk b0_ 0 none).add 10) [(.int .u32 j1_.1)]
 (f79c0 X L x b0_)))
def f79c2 (X : Task → M Value) (L : LoopI) (x : (Option Addr) × (Int × Int × Int × Int × Int × Int × Int × Int × Int × Int × Int × Unit) × ((Option Addr × Nat × Nat)) × (Bool) × Unit) (b0_ : Nat) (j1_ : (Int) × Unit) (x3_ : Int × Int × Int × Int × Int × Int × Int × Int × Int × Int × Int × Unit) : M (Value) :=
 M.callS (.tuple [(.agg [(.int .i64), (.int .i64), (.int .i64), (.int .i64), (.int .u32), (.int .u32), (.int .u32), (.int .u32), (.int .u32), (.int .u32), (.int .u32)]), (.cell .slice), (.cell (.int .i64))]) (X (.call 111 [(.agg ⟨[(.int .i64 x3_.1), (.int .i64 x3_.2.1), (.int .i64 x3_.2.2.1), (.int .i64 x3_.2.2.2.1), (.int .u32 x3_.2.2.2.2.1), (.int .u32 x3_.2.2.2.2.2.1), (.int .u32 x3_.2.2.2.2.2.2.1), (.int .u32 x3_.2.2.2.2.2.2.2.1), (.int .u32 x3_.2.2.2.2.2.2.2.2.1), (.int .u32 x3_.2.2.2.2.2.2.2.2.2.1), (.int .u32 x3_.2.2.2.2.2.2.2.2.2.2.1)]⟩), (.slice x.2.2.1.1 x.2.2.1.2.1 x.2.2.1.2.2)])) fun (r4_ : (Int × Int × Int × Int × Int × Int × Int × Int × Int × Int × Int × Unit) × ((Option Addr × Nat × Nat)) × (Int) × Unit) =>
 f79c1 X L x b0_ j1_ r4_
def f79c3 (X : Task → M Value) (L : LoopI) (x : (Option Addr) × (Int × Int × Int × Int × Int × Int × Int × Int × Int × Int × Int × Unit) × ((Option Addr × Nat × Nat)) × (Bool) × Unit) (b0_ : Nat) (go2_ : ((Int) × Unit) → M (Value)) : M (Value) :=
 M.load (.cell (.int .i64)) 1 ((Addr.mk b0_ 0 none).add 0) fun (x11_ : Int) =>
 M.guard (decide (0 ≤ 6) && decide (6 ≤ ((x.2.2.1.2.1 : Nat) : Int)))
 (let v12_ : Nat := (Int.toNat 6)
 M.callS (.tuple [(.cell (.int .u32)), (.cell (.int .i64))]) (X (.call 15 [(.pointer x.1), (.int .i64 x11_), (.slice (x.2.2.1.1.map (·.add (v12_ * 1))) (x.2.2.1.2.1 - v12_) (x.2.2.1.2.2 - v12_)), (.bool false)])) fun (r13_ : (Int) × (Int) × Unit) =>
 M.ite (!(r13_.2.1 == 0))
 (M.pure (.int .i64 r13_.2.1))
 (go2_ (r13_.1, ())))
def f79c4 (X : Task → M Value) (L : LoopI) (x : (Option Addr) × (Int × Int × Int × Int × Int × Int × Int × Int × Int × Int × Int × Unit) × ((Option Addr × Nat × Nat)) × (Bool) × Unit) (b0_ : Nat) : M (Value) :=
 M.join (fun (j1_ : (Int) × Unit) =>
 M.load (.agg [(.int .i64), (.int .i64), (.int .i64), (.int .i64), (.int .u32), (.int .u32), (.int .u32), (.int .u32), (.int .u32), (.int .u32), (.int .u32)]) 11 (Addr.mk b0_ 0 none) fun (x3_ : Int × Int × Int × Int × Int × Int × Int × Int × Int × Int × Int × Unit) =>
 f79c2 X L x b0_ j1_ x3_) fun go2_ =>
 M.load (.cell (.int .i64)) 1 ((Addr.mk b0_ 0 none).add 2) fun (x8_ : Int) =>
 M.callS (.one (.cell (.int .i64))) (X (.call 78 [(.int .i64 x8_)])) fun (r9_ : Int) =>
 M.ite (decide (r9_ > 6))
 (f79c3 X L x b0_ go2_)
 (go2_ (0, ()))
def f79 (X : Task → M Value) (L : LoopI) (x : (Option Addr) × (Int × Int × Int × Int × Int × Int × Int × Int × Int × Int × Int × Unit) × ((Option Addr × Nat × Nat)) × (Bool) × Unit) : M Value :=
 M.new (.cells (Row.ofList [(.int .i64 x.2.1.1), (.int .i64 x.2.1.2.1), (.int .i64 x.2.1.2.2.1), (.int .i64 x.2.1.2.2.2.1), (.int .u32 x.2.1.2.2.2.2.1), (.int .u32 x.2.1.2.2.2.2.2.1), (.int .u32 x.2.1.2.2.2.2.2.2.1), (.int .u32 x.2.1.2.2.2.2.2.2.2.1), (.int .u32 x.2.1.2.2.2.2.2.2.2.2.1), (.int .u32 x.2.1.2.2.2.2.2.2.2.2.2.1), (.int .u32 x.2.1.2.2.2.2.2.2.2.2.2.2.1)]) 34 false (0, 0) false) fun b0_ =>
 f79c4 X L x b0_

theorem e79 (X : Task → M Value) (L : LoopI) (x : (Option Addr) × (Int × Int × Int × Int × Int × Int × Int × Int × Int × Int × Int × Unit) × ((Option Addr × Nat × Nat)) × (Bool) × Unit) : evBody CC { call := X, loop := L } 79 (shsInj [(.cell .ptr), (.agg [(.int .i64), (.int .i64), (.int .i64), (.int .i64), (.int .u32), (.int .u32), (.int .u32), (.int .u32), (.int .u32), (.int .u32), (.int .u32)]), (.cell .slice), (.cell .bool)] x) = f79 X L x := by kernel_rfl

/-- hayrick/files.with -/
def f80c0 (X : Task → M Value) (L : LoopI) (x : (Option Addr) × (Int) × (Value) × Unit) (b1_ : Nat) (r4_ : ((Option Addr × Nat × Nat)) × (Int) × Unit) : M (Value) :=
 M.load (.agg [(.int .i64), (.int .i64), (.int .i64), (.int .i64), (.int .u32), (.int .u32), (.int .u32), (.int .u32), (.int .u32), (.int .u32), (.int .u32)]) 11 (Addr.mk b1_ 0 none) fun (x6_ : Int × Int × Int × Int × Int × Int × Int × Int × Int × Int × Int × Unit) =>
 callV CC ⟨X, L⟩ x.2.2.1 [(.agg ⟨[(.int .i64 x6_.1), (.int .i64 x6_.2.1), (.int .i64 x6_.2.2.1), (.int .i64 x6_.2.2.2.1), (.int .u32 x6_.2.2.2.2.1), (.int .u32 x6_.2.2.2.2.2.1), (.int .u32 x6_.2.2.2.2.2.2.1), (.int .u32 x6_.2.2.2.2.2.2.2.1), (.int .u32 x6_.2.2.2.2.2.2.2.2.1), (.int .u32 x6_.2.2.2.2.2.2.2.2.2.1), (.int .u32 x6_.2.2.2.2.2.2.2.2.2.2.1)]⟩), (.slice r4_.1.1 r4_.1.2.1 r4_.1.2.2)] fun w8_ => M.need (RSh.prj (.one (.cell (.int .i64))) w8_) fun (r7_ : Int) =>
 M.pure (.int .i64 r7_)
def f80c1 (X : Task → M Value) (L : LoopI) (x : (Option Addr) × (Int) × (Value) × Unit) (b1_ : Nat) (x3_ : Int × Int × Int × Int × Int × Int × Int × Int × Int × Int × Int × Unit) : M (Value) :=
 M.callS (.tuple [(.cell .slice), (.cell (.int .i64))]) (X (.call 17 [(.pointer x.1), (.agg ⟨[(.int .i64 x3_.1), (.int .i64 x3_.2.1), (.int .i64 x3_.2.2.1), (.int .i64 x3_.2.2.2.1), (.int .u32 x3_.2.2.2.2.1), (.int .u32 x3_.2.2.2.2.2.1), (.int .u32 x3_.2.2.2.2.2.2.1), (.int .u32 x3_.2.2.2.2.2.2.2.1), (.int .u32 x3_.2.2.2.2.2.2.2.2.1), (.int .u32 x3_.2.2.2.2.2.2.2.2.2.1), (.int .u32 x3_.2.2.2.2.2.2.2.2.2.2.1)]⟩)])) fun (r4_ : ((Option Addr × Nat × Nat)) × (Int) × Unit) =>
 M.ite (!(r4_.2.1 == 0))
 (M.pure (.int .i64 r4_.2.1))
 (f80c0 X L x b1_ r4_)
def f80c2 (X : Task → M Value) (L : LoopI) (x : (Option Addr) × (Int) × (Value) × Unit) (r0_ : (Int × Int × Int × Int × Int × Int × Int × Int × Int × Int × Int × Unit) × (Int) × Unit) (b1_ : Nat) : M (Value) :=
 M.store (Addr.mk b1_ 0 none) [(.int .i64 r0_.1.1), (.int .i64 r0_.1.2.1), (.int .i64 r0_.1.2.2.1), (.int .i64 r0_.1.2.2.2.1), (.int .u32 r0_.1.2.2.2.2.1), (.int .u32 r0_.1.2.2.2.2.2.1), (.int .u32 r0_.1.2.2.2.2.2.2.1), (.int .u32 r0_.1.2.2.2.2.2.2.2.1), (.int .u32 r0_.1.2.2.2.2.2.2.2.2.1), (.int .u32 r0_.1.2.2.2.2.2.2.2.2.2.1), (.int .u32 r0_.1.2.2.2.2.2.2.2.2.2.2.1)]
 (M.ite (!(r0_.2.1 == 0))
 (M.pure (.int .i64 r0_.2.1))
 (M.load (.agg [(.int .i64), (.int .i64), (.int .i64), (.int .i64), (.int .u32), (.int .u32), (.int .u32), (.int .u32), (.int .u32), (.int .u32), (.int .u32)]) 11 (Addr.mk b1_ 0 none) fun (x3_ : Int × Int × Int × Int × Int × Int × Int × Int × Int × Int × Int × Unit) =>
 f80c1 X L x b1_ x3_))
def f80c3 (X : Task → M Value) (L : LoopI) (x : (Option Addr) × (Int) × (Value) × Unit) : M (Value) :=
 M.callS (.tuple [(.agg [(.int .i64), (.int .i64), (.int .i64), (.int .i64), (.int .u32), (.int .u32), (.int .u32), (.int .u32), (.int .u32), (.int .u32), (.int .u32)]), (.cell (.int .i64))]) (X (.call 13 [(.pointer x.1), (.int .i64 x.2.1)])) fun (r0_ : (Int × Int × Int × Int × Int × Int × Int × Int × Int × Int × Int × Unit) × (Int) × Unit) =>
 M.new (.cells (Row.ofList [(.int .i64 0), (.int .i64 0), (.int .i64 0), (.int .i64 0), (.int .u32 0), (.int .u32 0), (.int .u32 0), (.int .u32 0), (.int .u32 0), (.int .u32 0), (.int .u32 0)]) 34 false (0, 0) false) fun b1_ =>
 f80c2 X L x r0_ b1_
def f80 (X : Task → M Value) (L : LoopI) (x : (Option Addr) × (Int) × (Value) × Unit) : M Value :=
 f80c3 X L x

theorem e80 (X : Task → M Value) (L : LoopI) (x : (Option Addr) × (Int) × (Value) × Unit) : evBody CC { call := X, loop := L } 80 (shsInj [(.cell .ptr), (.cell (.int .i64)), (.cell .val)] x) = f80 X L x := by kernel_rfl

/-- hayrick/files.resized -/
def f82 (X : Task → M Value) (L : LoopI) (x : ((Option Addr × Nat × Nat)) × (Int) × Unit) : M Value :=
 M.guard (decide (0 ≤ x.2.1) && decide (x.2.1 ≤ x.2.1) && decide ((4 : Int) * x.2.1 ≤ 2 ^ 48))
 (M.new (.cells (Row.rep [(.int .u32 0)] (Int.toNat x.2.1)) 31 false (0, 0) false) fun b0_ =>
 M.copy 1 (some (Addr.mk b0_ 0 none)) (Int.toNat x.2.1) (.slice x.1.1 x.1.2.1 x.1.2.2) fun m1_ =>
 M.pure (.slice (some (Addr.mk b0_ 0 none)) (Int.toNat x.2.1) (Int.toNat x.2.1)))

theorem e82 (X : Task → M Value) (L : LoopI) (x : ((Option Addr × Nat × Nat)) × (Int) × Unit) : evBody CC { call := X, loop := L } 82 (shsInj [(.cell .slice), (.cell (.int .i64))] x) = f82 X L x := by kernel_rfl

/-- hayrick/files.block -/
def f83c0 (X : Task → M Value) (L : LoopI) (x : (Option Addr) × (Int) × Unit) (v0_ : Bool) : M (Value) :=
 M.ite v0_
 (M.guard (decide (0 ≤ 112) && decide (112 ≤ 112) && decide ((1 : Int) * 112 ≤ 2 ^ 48))
 (M.new (.cells (Row.rep [(.int .u8 0)] (Int.toNat 112)) 5 false (0, 0) false) fun b1_ =>
 M.pure (.tuple ⟨[(.slice (some (Addr.mk b1_ 0 none)) (Int.toNat 112) (Int.toNat 112)), (.int .i64 0)]⟩)))
 (M.callS (.one (.cell .ptr)) (X (.call 12 [(.pointer x.1)])) fun (r2_ : Option Addr) =>
 M.callS (.tuple [(.cell .slice), (.cell (.int .i64))]) (X (.call 24 [(.pointer r2_), (.int .u32 x.2.1)])) fun (r3_ : ((Option Addr × Nat × Nat)) × (Int) × Unit) =>
 M.pure (.tuple ⟨[(.slice r3_.1.1 r3_.1.2.1 r3_.1.2.2), (.int .i64 r3_.2.1)]⟩))
def f83 (X : Task → M Value) (L : LoopI) (x : (Option Addr) × (Int) × Unit) : M Value :=
 f83c0 X L x (x.2.1 == 0)

theorem e83 (X : Task → M Value) (L : LoopI) (x : (Option Addr) × (Int) × Unit) : evBody CC { call := X, loop := L } 83 (shsInj [(.cell .ptr), (.cell (.int .u32))] x) = f83 X L x := by kernel_rfl

/-- hayrick/files.Read$1 -/
def f84c0 (X : Task → M Value) (L : LoopI) (x : (Int × Int × Int × Int × Int × Int × Int × Int × Int × Int × Int × Unit) × ((Option Addr × Nat × Nat)) × (Option Addr) × (Option Addr) × (Option Addr) × (Option Addr) × Unit) (s23_ : (Int) × Unit) (r33_ : ((Option Addr × Nat × Nat)) × (Int) × Unit) (x37_ : (Option Addr × Nat × Nat)) (x38_ : Int) (x39_ : Int) (x40_ : Int) : M (((Int) × Unit) ⊕ ((Unit) ⊕ (((Int) × Unit) ⊕ (Unit)))) :=
 M.guard (decide (0 ≤ x40_) && decide (x40_ ≤ ((r33_.1.2.2 : Nat) : Int)))
 (let v41_ : Nat := (Int.toNat x40_)
 M.guard (decide (0 ≤ x39_) && decide (x39_ ≤ ((v41_ : Nat) : Int)))
 (let v42_ : Nat := (Int.toNat x39_)
 M.guard (decide (0 ≤ x38_) && decide (x38_ ≤ ((v42_ : Nat) : Int)))
 (let v43_ : Nat := (Int.toNat x38_)
 M.append 5 1 1 x37_.1 x37_.2.1 x37_.2.2 (.slice (r33_.1.1.map (·.add (v43_ * 1))) (v42_ - v43_) (v41_ - v43_)) fun a44_ n45_ c46_ =>
 M.deref x.2.2.2.2.2.1 fun a47_ =>
 M.store a47_ [(.slice a44_ n45_ c46_)]
 (M.pure (.inl ((IntKind.i64.wrap (s23_.1 + 1)), ()))))))
def f84c1 (X : Task → M Value) (L : LoopI) (x : (Int × Int × Int × Int × Int × Int × Int × Int × Int × Int × Int × Unit) × ((Option Addr × Nat × Nat)) × (Option Addr) × (Option Addr) × (Option Addr) × (Option Addr) × Unit) (s23_ : (Int) × Unit) (b27_ : Nat) (r33_ : ((Option Addr × Nat × Nat)) × (Int) × Unit) (v34_ : Bool) : M (((Int) × Unit) ⊕ ((Unit) ⊕ (((Int) × Unit) ⊕ (Unit)))) :=
 M.ite v34_
 (M.deref x.2.2.2.2.2.1 fun a35_ =>
 M.store a35_ [(.slice none 0 0)]
 (M.pure (.inr (.inr (.inl (r33_.2.1, ()))))))
 (M.deref x.2.2.2.2.2.1 fun a36_ =>
 M.load (.cell .slice) 1 a36_ fun (x37_ : (Option Addr × Nat × Nat)) =>
 M.load (.cell (.int .i64)) 1 ((Addr.mk b27_ 0 none).add 1) fun (x38_ : Int) =>
 M.load (.cell (.int .i64)) 1 ((Addr.mk b27_ 0 none).add 2) fun (x39_ : Int) =>
 M.load (.cell (.int .i64)) 1 ((Addr.mk b27_ 0 none).add 2) fun (x40_ : Int) =>
 f84c0 X L x s23_ r33_ x37_ x38_ x39_ x40_)
def f84c2 (X : Task → M Value) (L : LoopI) (x : (Int × Int × Int × Int × Int × Int × Int × Int × Int × Int × Int × Unit) × ((Option Addr × Nat × Nat)) × (Option Addr) × (Option Addr) × (Option Addr) × (Option Addr) × Unit) (s23_ : (Int) × Unit) (b27_ : Nat) : M (((Int) × Unit) ⊕ ((Unit) ⊕ (((Int) × Unit) ⊕ (Unit)))) :=
 M.deref x.2.2.2.2.1 fun a28_ =>
 M.load (.cell .ptr) 1 a28_ fun (x29_ : Option Addr) =>
 M.load (.cell (.int .i64)) 1 ((Addr.mk b27_ 0 none).add 0) fun (x30_ : Int) =>
 M.guard (decide (0 ≤ x30_) && decide (x30_ < ((x.2.1.2.1 : Nat) : Int)))
 (M.deref x.2.1.1 fun a31_ =>
 M.load (.cell (.int .u32)) 1 (a31_.add ((Int.toNat x30_) * 1)) fun (x32_ : Int) =>
 M.callS (.tuple [(.cell .slice), (.cell (.int .i64))]) (X (.call 83 [(.pointer x29_), (.int .u32 x32_)])) fun (r33_ : ((Option Addr × Nat × Nat)) × (Int) × Unit) =>
 f84c1 X L x s23_ b27_ r33_ (!(r33_.2.1 == 0)))
def f84c3 (X : Task → M Value) (L : LoopI) (x : (Int × Int × Int × Int × Int × Int × Int × Int × Int × Int × Int × Unit) × ((Option Addr × Nat × Nat)) × (Option Addr) × (Option Addr) × (Option Addr) × (Option Addr) × Unit) (r20_ : ((Option Addr × Nat × Nat)) × (Int) × Unit) (s23_ : (Int) × Unit) : M (((Int) × Unit) ⊕ ((Unit) ⊕ (((Int) × Unit) ⊕ (Unit)))) :=
 M.guard (decide (0 ≤ s23_.1) && decide (s23_.1 < ((r20_.1.2.1 : Nat) : Int)))
 (M.deref r20_.1.1 fun a25_ =>
 M.load (.agg [(.int .i64), (.int .i64), (.int .i64), (.int .i64)]) 4 (a25_.add ((Int.toNat s23_.1) * 4)) fun (x26_ : Int × Int × Int × Int × Unit) =>
 M.new (.cells (Row.ofList [(.int .i64 0), (.int .i64 0), (.int .i64 0), (.int .i64 0)]) 146 false (0, 0) false) fun b27_ =>
 M.store (Addr.mk b27_ 0 none) [(.int .i64 x26_.1), (.int .i64 x26_.2.1), (.int .i64 x26_.2.2.1), (.int .i64 x26_.2.2.2.1)]
 (f84c2 X L x s23_ b27_))
def f84c4 (X : Task → M Value) (L : LoopI) (x : (Int × Int × Int × Int × Int × Int × Int × Int × Int × Int × Int × Unit) × ((Option Addr × Nat × Nat)) × (Option Addr) × (Option Addr) × (Option Addr) × (Option Addr) × Unit) (x17_ : Int) (x19_ : Int) : M (Value) :=
 M.callS (.tuple [(.cell .slice), (.cell (.int .i64))]) (X (.call 85 [(.int .i64 x17_), (.int .i64 x19_)])) fun (r20_ : ((Option Addr × Nat × Nat)) × (Int) × Unit) =>
 M.ite (!(r20_.2.1 == 0))
 (M.pure (.int .i64 r20_.2.1))
 (M.bind (L (σ := (Int) × Unit) (ρ := (Unit) ⊕ (((Int) × Unit) ⊕ (Unit))) (fun s23_ =>
 M.ite (decide (s23_.1 < ((r20_.1.2.1 : Nat) : Int)))
 (f84c3 X L x r20_ s23_)
 (M.pure (.inr (.inl (()))))) (0, ())) <| M.sum (fun (j49_ : Unit) =>
 M.pure (.int .i64 0)) (M.sum (fun (j50_ : (Int) × Unit) =>
 M.pure (.int .i64 j50_.1)) (fun _ => M.stuck)))
def f84c5 (X : Task → M Value) (L : LoopI) (x : (Int × Int × Int × Int × Int × Int × Int × Int × Int × Int × Int × Unit) × ((Option Addr × Nat × Nat)) × (Option Addr) × (Option Addr) × (Option Addr) × (Option Addr) × Unit) (b0_ : Nat) : M (Value) :=
 M.deref x.2.2.2.1 fun a8_ =>
 M.load (.cell (.int .i64)) 1 a8_ fun (x9_ : Int) =>
 M.load (.cell (.int .i64)) 1 ((Addr.mk b0_ 0 none).add 2) fun (x10_ : Int) =>
 M.deref x.2.2.1 fun a11_ =>
 M.load (.cell (.int .i64)) 1 a11_ fun (x12_ : Int) =>
 let v13_ : Int := IntKind.i64.wrap (x10_ - x12_)
 M.deref x.2.2.2.1 fun a15_ =>
 M.store a15_ [(.int .i64 (if v13_ < x9_ then v13_ else x9_))]
 (M.deref x.2.2.1 fun a16_ =>
 M.load (.cell (.int .i64)) 1 a16_ fun (x17_ : Int) =>
 M.deref x.2.2.2.1 fun a18_ =>
 M.load (.cell (.int .i64)) 1 a18_ fun (x19_ : Int) =>
 f84c4 X L x x17_ x19_)
def f84c6 (X : Task → M Value) (L : LoopI) (x : (Int × Int × Int × Int × Int × Int × Int × Int × Int × Int × Int × Unit) × ((Option Addr × Nat × Nat)) × (Option Addr) × (Option Addr) × (Option Addr) × (Option Addr) × Unit) (b0_ : Nat) : M (Value) :=
 M.join (fun (j1_ : (Bool) × Unit) =>
 M.ite j1_.1
 (M.pure (.int .i64 1))
 (M.deref x.2.2.1 fun a3_ =>
 M.load (.cell (.int .i64)) 1 a3_ fun (x4_ : Int) =>
 M.load (.cell (.int .i64)) 1 ((Addr.mk b0_ 0 none).add 2) fun (x5_ : Int) =>
 M.deref x.2.2.1 fun a7_ =>
 M.store a7_ [(.int .i64 (if x5_ < x4_ then x5_ else x4_))]
 (f84c5 X L x b0_))) fun go2_ =>
 M.deref x.2.2.1 fun a51_ =>
 M.load (.cell (.int .i64)) 1 a51_ fun (x52_ : Int) =>
 M.ite (decide (x52_ < 0))
 (go2_ (true, ()))
 (M.deref x.2.2.2.1 fun a54_ =>
 M.load (.cell (.int .i64)) 1 a54_ fun (x55_ : Int) =>
 go2_ ((decide (x55_ < 0)), ()))
def f84 (X : Task → M Value) (L : LoopI) (x : (Int × Int × Int × Int × Int × Int × Int × Int × Int × Int × Int × Unit) × ((Option Addr × Nat × Nat)) × (Option Addr) × (Option Addr) × (Option Addr) × (Option Addr) × Unit) : M Value :=
 M.new (.cells (Row.ofList [(.int .i64 x.1.1), (.int .i64 x.1.2.1), (.int .i64 x.1.2.2.1), (.int .i64 x.1.2.2.2.1), (.int .u32 x.1.2.2.2.2.1), (.int .u32 x.1.2.2.2.2.2.1), (.int .u32 x.1.2.2.2.2.2.2.1), (.int .u32 x.1.2.2.2.2.2.2.2.1), (.int .u32 x.1.2.2.2.2.2.2.2.2.1), (.int .u32 x.1.2.2.2.2.2.2.2.2.2.1), (.int .u32 x.1.2.2.2.2.2.2.2.2.2.2.1)]) 34 false (0, 0) false) fun b0_ =>
 f84c6 X L x b0_

theorem e84 (X : Task → M Value) (L : LoopI) (x : (Int × Int × Int × Int × Int × Int × Int × Int × Int × Int × Int × Unit) × ((Option Addr × Nat × Nat)) × (Option Addr) × (Option Addr) × (Option Addr) × (Option Addr) × Unit) : evBody CC { call := X, loop := L } 84 (shsInj [(.agg [(.int .i64), (.int .i64), (.int .i64), (.int .i64), (.int .u32), (.int .u32), (.int .u32), (.int .u32), (.int .u32), (.int .u32), (.int .u32)]), (.cell .slice), (.cell .ptr), (.cell .ptr), (.cell .ptr), (.cell .ptr)] x) = f84 X L x := by kernel_rfl

/-- hayrick/points.Cut -/
def f85c0 (X : Task → M Value) (L : LoopI) (x : (Int) × (Int) × Unit) (s4_ : ((Option Addr × Nat × Nat)) × (Int) × Unit) (v7_ : Int) (v9_ : Int) : M ((((Option Addr × Nat × Nat)) × (Int) × Unit) ⊕ ((((Option Addr × Nat × Nat)) × Unit) ⊕ (Unit))) :=
 let v10_ : Int := (if v9_ < 112 then v9_ else 112)
 M.guard (!(decide (112 = 0)))
 (M.new (.cells (Row.ofList [(.int .i64 (IntKind.i64.wrap (((IntKind.i64.wrap (x.1 + s4_.2.1)) : Int).tdiv 112))), (.int .i64 v7_), (.int .i64 v10_), (.int .i64 s4_.2.1)]) 146 false (0, 0) false) fun b13_ =>
 M.append 146 4 32 s4_.1.1 s4_.1.2.1 s4_.1.2.2 (.slice (some (Addr.mk b13_ 0 none)) 1 1) fun a14_ n15_ c16_ =>
 M.pure (.inl ((a14_, n15_, c16_), (IntKind.i64.wrap (s4_.2.1 + (IntKind.i64.wrap (v10_ - v7_)))), ())))
def f85c1 (X : Task → M Value) (L : LoopI) (x : (Int) × (Int) × Unit) : M (Value) :=
 M.bind (L (σ := ((Option Addr × Nat × Nat)) × (Int) × Unit) (ρ := (((Option Addr × Nat × Nat)) × Unit) ⊕ (Unit)) (fun s4_ =>
 M.ite (decide (s4_.2.1 < x.2.1))
 (M.guard (!(decide (112 = 0)))
 (let v7_ : Int := ((IntKind.i64.wrap (x.1 + s4_.2.1)) : Int).tmod 112
 f85c0 X L x s4_ v7_ (IntKind.i64.wrap ((IntKind.i64.wrap (v7_ + x.2.1)) - s4_.2.1))))
 (M.pure (.inr (.inl (s4_.1, ()))))) ((none, 0, 0), 0, ())) <| M.sum (fun (j19_ : ((Option Addr × Nat × Nat)) × Unit) =>
 M.pure (.tuple ⟨[(.slice j19_.1.1 j19_.1.2.1 j19_.1.2.2), (.int .i64 0)]⟩)) (fun _ => M.stuck)
def f85 (X : Task → M Value) (L : LoopI) (x : (Int) × (Int) × Unit) : M Value :=
 M.join (fun (j0_ : (Bool) × Unit) =>
 M.ite j0_.1
 (M.pure (.tuple ⟨[(.slice none 0 0), (.int .i64 1)]⟩))
 (M.join (fun (j2_ : (Bool) × Unit) =>
 M.ite j2_.1
 (M.pure (.tuple ⟨[(.slice none 0 0), (.int .i64 39)]⟩))
 (f85c1 X L x)) fun go3_ =>
 M.ite (decide (x.1 > 3808))
 (go3_ (true, ()))
 (go3_ ((decide (x.2.1 > (IntKind.i64.wrap (3808 - x.1)))), ())))) fun go1_ =>
 M.ite (decide (x.1 < 0))
 (go1_ (true, ()))
 (go1_ ((decide (x.2.1 < 0)), ()))

theorem e85 (X : Task → M Value) (L : LoopI) (x : (Int) × (Int) × Unit) : evBody CC { call := X, loop := L } 85 (shsInj [(.cell (.int .i64)), (.cell (.int .i64))] x) = f85 X L x := by kernel_rfl

/-- hayrick/files.Write$1 -/
def f86c0 (X : Task → M Value) (L : LoopI) (r26_ : (Option Addr × Nat × Nat)) (s28_ : (Int) × Unit) (b32_ : Nat) (r38_ : ((Option Addr × Nat × Nat)) × (Int) × Unit) (x49_ : Int) (x51_ : Option Addr) (x53_ : Int) (x54_ : Int) : M (((Int) × Unit) ⊕ ((Unit) ⊕ (((Int) × Unit) ⊕ (Unit)))) :=
 M.callS (.tuple [(.cell (.int .u32)), (.cell (.int .i64))]) (X (.call 16 [(.pointer x51_), (.int .i64 x53_), (.int .i64 x54_), (.slice r38_.1.1 r38_.1.2.1 r38_.1.2.2), (.bool false)])) fun (r55_ : (Int) × (Int) × Unit) =>
 M.load (.cell (.int .i64)) 1 ((Addr.mk b32_ 0 none).add 0) fun (x56_ : Int) => cond (veqv (.int .i64 x56_) (.int .i64 x49_)) (M.guard (decide (0 ≤ x49_) && decide (x49_ < ((r26_.2.1 : Nat) : Int)))
 (M.deref r26_.1 fun a57_ =>
 M.store (a57_.add ((Int.toNat x49_) * 1)) [(.int .u32 r55_.1)]
 (M.ite (!(r55_.2.1 == 0))
 (M.pure (.inr (.inr (.inl (r55_.2.1, ())))))
 (M.pure (.inl ((IntKind.i64.wrap (s28_.1 + 1)), ())))))) M.stuck
def f86c1 (X : Task → M Value) (L : LoopI) (x : (Int × Int × Int × Int × Int × Int × Int × Int × Int × Int × Int × Unit) × ((Option Addr × Nat × Nat)) × (Option Addr) × (Option Addr) × (Option Addr) × (Option Addr) × (Option Addr) × Unit) (r26_ : (Option Addr × Nat × Nat)) (s28_ : (Int) × Unit) (b32_ : Nat) (r38_ : ((Option Addr × Nat × Nat)) × (Int) × Unit) (v42_ : Nat) (v43_ : Nat) (x45_ : (Option Addr × Nat × Nat)) (v47_ : Nat) : M (((Int) × Unit) ⊕ ((Unit) ⊕ (((Int) × Unit) ⊕ (Unit)))) :=
 M.copy 1 (r38_.1.1.map (·.add (v43_ * 1))) (v42_ - v43_) (.slice (x45_.1.map (·.add (v47_ * 1))) (x45_.2.1 - v47_) (x45_.2.2 - v47_)) fun m48_ =>
 M.load (.cell (.int .i64)) 1 ((Addr.mk b32_ 0 none).add 0) fun (x49_ : Int) =>
 M.deref x.2.2.2.2.1 fun a50_ =>
 M.load (.cell .ptr) 1 a50_ fun (x51_ : Option Addr) =>
 M.deref x.2.2.2.2.2.1 fun a52_ =>
 M.load (.cell (.int .i64)) 1 a52_ fun (x53_ : Int) =>
 M.load (.cell (.int .i64)) 1 ((Addr.mk b32_ 0 none).add 0) fun (x54_ : Int) =>
 f86c0 X L r26_ s28_ b32_ r38_ x49_ x51_ x53_ x54_
def f86c2 (X : Task → M Value) (L : LoopI) (x : (Int × Int × Int × Int × Int × Int × Int × Int × Int × Int × Int × Unit) × ((Option Addr × Nat × Nat)) × (Option Addr) × (Option Addr) × (Option Addr) × (Option Addr) × (Option Addr) × Unit) (r26_ : (Option Addr × Nat × Nat)) (s28_ : (Int) × Unit) (b32_ : Nat) (r38_ : ((Option Addr × Nat × Nat)) × (Int) × Unit) (x40_ : Int) (x41_ : Int) : M (((Int) × Unit) ⊕ ((Unit) ⊕ (((Int) × Unit) ⊕ (Unit)))) :=
 M.guard (decide (0 ≤ x41_) && decide (x41_ ≤ ((r38_.1.2.2 : Nat) : Int)))
 (let v42_ : Nat := (Int.toNat x41_)
 M.guard (decide (0 ≤ x40_) && decide (x40_ ≤ ((v42_ : Nat) : Int)))
 (M.deref x.2.2.2.1 fun a44_ =>
 M.load (.cell .slice) 1 a44_ fun (x45_ : (Option Addr × Nat × Nat)) =>
 M.load (.cell (.int .i64)) 1 ((Addr.mk b32_ 0 none).add 3) fun (x46_ : Int) =>
 M.guard (decide (0 ≤ x46_) && decide (x46_ ≤ ((x45_.2.1 : Nat) : Int)))
 (f86c1 X L x r26_ s28_ b32_ r38_ v42_ (Int.toNat x40_) x45_ (Int.toNat x46_))))
def f86c3 (X : Task → M Value) (L : LoopI) (x : (Int × Int × Int × Int × Int × Int × Int × Int × Int × Int × Int × Unit) × ((Option Addr × Nat × Nat)) × (Option Addr) × (Option Addr) × (Option Addr) × (Option Addr) × (Option Addr) × Unit) (r26_ : (Option Addr × Nat × Nat)) (s28_ : (Int) × Unit) (b32_ : Nat) (x34_ : Option Addr) (x35_ : Int) (a36_ : Addr) : M (((Int) × Unit) ⊕ ((Unit) ⊕ (((Int) × Unit) ⊕ (Unit)))) :=
 M.load (.cell (.int .u32)) 1 (a36_.add ((Int.toNat x35_) * 1)) fun (x37_ : Int) =>
 M.callS (.tuple [(.cell .slice), (.cell (.int .i64))]) (X (.call 83 [(.pointer x34_), (.int .u32 x37_)])) fun (r38_ : ((Option Addr × Nat × Nat)) × (Int) × Unit) =>
 M.ite (!(r38_.2.1 == 0))
 (M.pure (.inr (.inr (.inl (r38_.2.1, ())))))
 (M.load (.cell (.int .i64)) 1 ((Addr.mk b32_ 0 none).add 1) fun (x40_ : Int) =>
 M.load (.cell (.int .i64)) 1 ((Addr.mk b32_ 0 none).add 2) fun (x41_ : Int) =>
 f86c2 X L x r26_ s28_ b32_ r38_ x40_ x41_)
def f86c4 (X : Task → M Value) (L : LoopI) (x : (Int × Int × Int × Int × Int × Int × Int × Int × Int × Int × Int × Unit) × ((Option Addr × Nat × Nat)) × (Option Addr) × (Option Addr) × (Option Addr) × (Option Addr) × (Option Addr) × Unit) (r26_ : (Option Addr × Nat × Nat)) (s28_ : (Int) × Unit) (x31_ : Int × Int × Int × Int × Unit) : M (((Int) × Unit) ⊕ ((Unit) ⊕ (((Int) × Unit) ⊕ (Unit)))) :=
 M.new (.cells (Row.ofList [(.int .i64 0), (.int .i64 0), (.int .i64 0), (.int .i64 0)]) 146 false (0, 0) false) fun b32_ =>
 M.store (Addr.mk b32_ 0 none) [(.int .i64 x31_.1), (.int .i64 x31_.2.1), (.int .i64 x31_.2.2.1), (.int .i64 x31_.2.2.2.1)]
 (M.deref x.2.2.2.2.1 fun a33_ =>
 M.load (.cell .ptr) 1 a33_ fun (x34_ : Option Addr) =>
 M.load (.cell (.int .i64)) 1 ((Addr.mk b32_ 0 none).add 0) fun (x35_ : Int) =>
 M.guard (decide (0 ≤ x35_) && decide (x35_ < ((r26_.2.1 : Nat) : Int)))
 (M.deref r26_.1 fun a36_ =>
 f86c3 X L x r26_ s28_ b32_ x34_ x35_ a36_))
def f86c5 (X : Task → M Value) (L : LoopI) (x : (Int × Int × Int × Int × Int × Int × Int × Int × Int × Int × Int × Unit) × ((Option Addr × Nat × Nat)) × (Option Addr) × (Option Addr) × (Option Addr) × (Option Addr) × (Option Addr) × Unit) (r26_ : (Option Addr × Nat × Nat)) (x62_ : Option Addr) (x65_ : Bool) (r66_ : Int × Int × Int × Int × Int × Int × Int × Int × Int × Int × Int × Unit) : M (Value) :=
 M.deref x.2.2.2.2.2.2.1 fun a67_ =>
 M.load (.cell .bool) 1 a67_ fun (x68_ : Bool) => cond (veqv (.bool x68_) (.bool x65_)) (M.deref x.2.2.2.2.1 fun a69_ =>
 M.load (.cell .ptr) 1 a69_ fun (x70_ : Option Addr) => cond (veqv (.pointer x70_) (.pointer x62_)) (M.callS (.one (.cell (.int .i64))) (X (.call 79 [(.pointer x62_), (.agg ⟨[(.int .i64 r66_.1), (.int .i64 r66_.2.1), (.int .i64 r66_.2.2.1), (.int .i64 r66_.2.2.2.1), (.int .u32 r66_.2.2.2.2.1), (.int .u32 r66_.2.2.2.2.2.1), (.int .u32 r66_.2.2.2.2.2.2.1), (.int .u32 r66_.2.2.2.2.2.2.2.1), (.int .u32 r66_.2.2.2.2.2.2.2.2.1), (.int .u32 r66_.2.2.2.2.2.2.2.2.2.1), (.int .u32 r66_.2.2.2.2.2.2.2.2.2.2.1)]⟩), (.slice r26_.1 r26_.2.1 r26_.2.2), (.bool x65_)])) fun (r71_ : Int) =>
 M.pure (.int .i64 r71_)) M.stuck) M.stuck
def f86c6 (X : Task → M Value) (L : LoopI) (x : (Int × Int × Int × Int × Int × Int × Int × Int × Int × Int × Int × Unit) × ((Option Addr × Nat × Nat)) × (Option Addr) × (Option Addr) × (Option Addr) × (Option Addr) × (Option Addr) × Unit) (v24_ : Int) (r26_ : (Option Addr × Nat × Nat)) (x62_ : Option Addr) (x63_ : Int × Int × Int × Int × Int × Int × Int × Int × Int × Int × Int × Unit) (x65_ : Bool) : M (Value) :=
 M.callS (.one (.agg [(.int .i64), (.int .i64), (.int .i64), (.int .i64), (.int .u32), (.int .u32), (.int .u32), (.int .u32), (.int .u32), (.int .u32), (.int .u32)])) (X (.call 77 [(.agg ⟨[(.int .i64 x63_.1), (.int .i64 x63_.2.1), (.int .i64 x63_.2.2.1), (.int .i64 x63_.2.2.2.1), (.int .u32 x63_.2.2.2.2.1), (.int .u32 x63_.2.2.2.2.2.1), (.int .u32 x63_.2.2.2.2.2.2.1), (.int .u32 x63_.2.2.2.2.2.2.2.1), (.int .u32 x63_.2.2.2.2.2.2.2.2.1), (.int .u32 x63_.2.2.2.2.2.2.2.2.2.1), (.int .u32 x63_.2.2.2.2.2.2.2.2.2.2.1)]⟩), (.int .i64 v24_)])) fun (r66_ : Int × Int × Int × Int × Int × Int × Int × Int × Int × Int × Int × Unit) =>
 f86c5 X L x r26_ x62_ x65_ r66_
def f86c7 (X : Task → M Value) (L : LoopI) (x : (Int × Int × Int × Int × Int × Int × Int × Int × Int × Int × Int × Unit) × ((Option Addr × Nat × Nat)) × (Option Addr) × (Option Addr) × (Option Addr) × (Option Addr) × (Option Addr) × Unit) (b0_ : Nat) (r15_ : ((Option Addr × Nat × Nat)) × (Int) × Unit) (v24_ : Int) (r26_ : (Option Addr × Nat × Nat)) (v27_ : Int) : M (Value) :=
 M.bind (L (σ := (Int) × Unit) (ρ := (Unit) ⊕ (((Int) × Unit) ⊕ (Unit))) (fun s28_ =>
 M.ite (decide (s28_.1 < v27_))
 (M.guard (decide (0 ≤ s28_.1) && decide (s28_.1 < ((r15_.1.2.1 : Nat) : Int)))
 (M.deref r15_.1.1 fun a30_ =>
 M.load (.agg [(.int .i64), (.int .i64), (.int .i64), (.int .i64)]) 4 (a30_.add ((Int.toNat s28_.1) * 4)) fun (x31_ : Int × Int × Int × Int × Unit) =>
 f86c4 X L x r26_ s28_ x31_))
 (M.pure (.inr (.inl (()))))) (0, ())) <| M.sum (fun (j60_ : Unit) =>
 M.deref x.2.2.2.2.1 fun a61_ =>
 M.load (.cell .ptr) 1 a61_ fun (x62_ : Option Addr) =>
 M.load (.agg [(.int .i64), (.int .i64), (.int .i64), (.int .i64), (.int .u32), (.int .u32), (.int .u32), (.int .u32), (.int .u32), (.int .u32), (.int .u32)]) 11 (Addr.mk b0_ 0 none) fun (x63_ : Int × Int × Int × Int × Int × Int × Int × Int × Int × Int × Int × Unit) =>
 M.deref x.2.2.2.2.2.2.1 fun a64_ =>
 M.load (.cell .bool) 1 a64_ fun (x65_ : Bool) =>
 f86c6 X L x v24_ r26_ x62_ x63_ x65_) (M.sum (fun (j72_ : (Int) × Unit) =>
 M.pure (.int .i64 j72_.1)) (fun _ => M.stuck))
def f86c8 (X : Task → M Value) (L : LoopI) (x : (Int × Int × Int × Int × Int × Int × Int × Int × Int × Int × Int × Unit) × ((Option Addr × Nat × Nat)) × (Option Addr) × (Option Addr) × (Option Addr) × (Option Addr) × (Option Addr) × Unit) (b0_ : Nat) (r15_ : ((Option Addr × Nat × Nat)) × (Int) × Unit) (x17_ : Int) (x19_ : Int) : M (Value) :=
 M.deref x.2.2.2.1 fun a20_ =>
 M.load (.cell .slice) 1 a20_ fun (x21_ : (Option Addr × Nat × Nat)) =>
 let v23_ : Int := IntKind.i64.wrap (x19_ + ((x21_.2.1 : Nat) : Int))
 let v24_ : Int := (if x17_ < v23_ then v23_ else x17_)
 M.callS (.one (.cell (.int .i64))) (X (.call 78 [(.int .i64 v24_)])) fun (r25_ : Int) =>
 M.callS (.one (.cell .slice)) (X (.call 82 [(.slice x.2.1.1 x.2.1.2.1 x.2.1.2.2), (.int .i64 r25_)])) fun (r26_ : (Option Addr × Nat × Nat)) =>
 f86c7 X L x b0_ r15_ v24_ r26_ ((r15_.1.2.1 : Nat) : Int)
def f86c9 (X : Task → M Value) (L : LoopI) (x : (Int × Int × Int × Int × Int × Int × Int × Int × Int × Int × Int × Unit) × ((Option Addr × Nat × Nat)) × (Option Addr) × (Option Addr) × (Option Addr) × (Option Addr) × (Option Addr) × Unit) (b0_ : Nat) (x11_ : Int) : M (Value) :=
 M.deref x.2.2.2.1 fun a12_ =>
 M.load (.cell .slice) 1 a12_ fun (x13_ : (Option Addr × Nat × Nat)) =>
 M.callS (.tuple [(.cell .slice), (.cell (.int .i64))]) (X (.call 85 [(.int .i64 x11_), (.int .i64 ((x13_.2.1 : Nat) : Int))])) fun (r15_ : ((Option Addr × Nat × Nat)) × (Int) × Unit) =>
 M.ite (!(r15_.2.1 == 0))
 (M.pure (.int .i64 r15_.2.1))
 (M.load (.cell (.int .i64)) 1 ((Addr.mk b0_ 0 none).add 2) fun (x17_ : Int) =>
 M.deref x.2.2.1 fun a18_ =>
 M.load (.cell (.int .i64)) 1 a18_ fun (x19_ : Int) =>
 f86c8 X L x b0_ r15_ x17_ x19_)
def f86c10 (X : Task → M Value) (L : LoopI) (x : (Int × Int × Int × Int × Int × Int × Int × Int × Int × Int × Int × Unit) × ((Option Addr × Nat × Nat)) × (Option Addr) × (Option Addr) × (Option Addr) × (Option Addr) × (Option Addr) × Unit) (b0_ : Nat) : M (Value) :=
 M.join (fun (j4_ : (Bool) × Unit) =>
 M.ite j4_.1
 (M.pure (.int .i64 39))
 (M.deref x.2.2.2.1 fun a6_ =>
 M.load (.cell .slice) 1 a6_ fun (x7_ : (Option Addr × Nat × Nat)) =>
 M.ite (((x7_.2.1 : Nat) : Int) == 0)
 (M.pure (.int .i64 0))
 (M.deref x.2.2.1 fun a10_ =>
 M.load (.cell (.int .i64)) 1 a10_ fun (x11_ : Int) =>
 f86c9 X L x b0_ x11_))) fun go5_ =>
 M.deref x.2.2.1 fun a73_ =>
 M.load (.cell (.int .i64)) 1 a73_ fun (x74_ : Int) =>
 M.ite (decide (x74_ > 3808))
 (go5_ (true, ()))
 (M.deref x.2.2.2.1 fun a76_ =>
 M.load (.cell .slice) 1 a76_ fun (x77_ : (Option Addr × Nat × Nat)) =>
 M.deref x.2.2.1 fun a79_ =>
 M.load (.cell (.int .i64)) 1 a79_ fun (x80_ : Int) =>
 go5_ ((decide (((x77_.2.1 : Nat) : Int) > (IntKind.i64.wrap (3808 - x80_)))), ()))
def f86c11 (X : Task → M Value) (L : LoopI) (x : (Int × Int × Int × Int × Int × Int × Int × Int × Int × Int × Int × Unit) × ((Option Addr × Nat × Nat)) × (Option Addr) × (Option Addr) × (Option Addr) × (Option Addr) × (Option Addr) × Unit) : M (Value) :=
 M.new (.cells (Row.ofList [(.int .i64 x.1.1), (.int .i64 x.1.2.1), (.int .i64 x.1.2.2.1), (.int .i64 x.1.2.2.2.1), (.int .u32 x.1.2.2.2.2.1), (.int .u32 x.1.2.2.2.2.2.1), (.int .u32 x.1.2.2.2.2.2.2.1), (.int .u32 x.1.2.2.2.2.2.2.2.1), (.int .u32 x.1.2.2.2.2.2.2.2.2.1), (.int .u32 x.1.2.2.2.2.2.2.2.2.2.1), (.int .u32 x.1.2.2.2.2.2.2.2.2.2.2.1)]) 34 false (0, 0) false) fun b0_ =>
 M.deref x.2.2.1 fun a1_ =>
 M.load (.cell (.int .i64)) 1 a1_ fun (x2_ : Int) =>
 M.ite (decide (x2_ < 0))
 (M.pure (.int .i64 1))
 (f86c10 X L x b0_)
def f86 (X : Task → M Value) (L : LoopI) (x : (Int × Int × Int × Int × Int × Int × Int × Int × Int × Int × Int × Unit) × ((Option Addr × Nat × Nat)) × (Option Addr) × (Option Addr) × (Option Addr) × (Option Addr) × (Option Addr) × Unit) : M Value :=
 f86c11 X L x

theorem e86 (X : Task → M Value) (L : LoopI) (x : (Int × Int × Int × Int × Int × Int × Int × Int × Int × Int × Int × Unit) × ((Option Addr × Nat × Nat)) × (Option Addr) × (Option Addr) × (Option Addr) × (Option Addr) × (Option Addr) × Unit) : evBody CC { call := X, loop := L } 86 (shsInj [(.agg [(.int .i64), (.int .i64), (.int .i64), (.int .i64), (.int .u32), (.int .u32), (.int .u32), (.int .u32), (.int .u32), (.int .u32), (.int .u32)]), (.cell .slice), (.cell .ptr), (.cell .ptr), (.cell .ptr), (.cell .ptr), (.cell .ptr)] x) = f86 X L x := by kernel_rfl

/-- hayrick/files.Copy$1 -/
def f87c0 (X : Task → M Value) (L : LoopI) (x : (Int × Int × Int × Int × Int × Int × Int × Int × Int × Int × Int × Unit) × ((Option Addr × Nat × Nat)) × (Option Addr) × (Option Addr) × (Option Addr) × Unit) (s2_ : (Int) × Unit) (go5_ : (Unit) → M (((Int) × Unit) ⊕ ((Unit) ⊕ (((Int) × Unit) ⊕ (Unit))))) (r12_ : ((Option Addr × Nat × Nat)) × (Int) × Unit) (x15_ : Option Addr) : M (((Int) × Unit) ⊕ ((Unit) ⊕ (((Int) × Unit) ⊕ (Unit)))) :=
 M.deref x.2.2.2.1 fun a16_ =>
 M.load (.cell (.int .i64)) 1 a16_ fun (x17_ : Int) =>
 M.callS (.tuple [(.cell (.int .u32)), (.cell (.int .i64))]) (X (.call 16 [(.pointer x15_), (.int .i64 x17_), (.int .i64 s2_.1), (.slice r12_.1.1 r12_.1.2.1 r12_.1.2.2), (.bool false)])) fun (r18_ : (Int) × (Int) × Unit) =>
 M.guard (decide (0 ≤ s2_.1) && decide (s2_.1 < ((x.2.1.2.1 : Nat) : Int)))
 (M.deref x.2.1.1 fun a19_ =>
 M.store (a19_.add ((Int.toNat s2_.1) * 1)) [(.int .u32 r18_.1)]
 (M.ite (!(r18_.2.1 == 0))
 (M.pure (.inr (.inr (.inl (r18_.2.1, ())))))
 (go5_ (()))))
def f87c1 (X : Task → M Value) (L : LoopI) (x : (Int × Int × Int × Int × Int × Int × Int × Int × Int × Int × Int × Unit) × ((Option Addr × Nat × Nat)) × (Option Addr) × (Option Addr) × (Option Addr) × Unit) (s2_ : (Int) × Unit) (go5_ : (Unit) → M (((Int) × Unit) ⊕ ((Unit) ⊕ (((Int) × Unit) ⊕ (Unit))))) (a7_ : Addr) : M (((Int) × Unit) ⊕ ((Unit) ⊕ (((Int) × Unit) ⊕ (Unit)))) :=
 M.load (.cell (.int .u32)) 1 (a7_.add ((Int.toNat s2_.1) * 1)) fun (x8_ : Int) =>
 M.ite (x8_ == 0)
 (go5_ (()))
 (M.deref x.2.2.1 fun a10_ =>
 M.load (.cell .ptr) 1 a10_ fun (x11_ : Option Addr) =>
 M.callS (.tuple [(.cell .slice), (.cell (.int .i64))]) (X (.call 83 [(.pointer x11_), (.int .u32 x8_)])) fun (r12_ : ((Option Addr × Nat × Nat)) × (Int) × Unit) =>
 M.ite (!(r12_.2.1 == 0))
 (M.pure (.inr (.inr (.inl (r12_.2.1, ())))))
 (M.deref x.2.2.1 fun a14_ =>
 M.load (.cell .ptr) 1 a14_ fun (x15_ : Option Addr) =>
 f87c0 X L x s2_ go5_ r12_ x15_))
def f87c2 (X : Task → M Value) (L : LoopI) (x : (Int × Int × Int × Int × Int × Int × Int × Int × Int × Int × Int × Unit) × ((Option Addr × Nat × Nat)) × (Option Addr) × (Option Addr) × (Option Addr) × Unit) (x23_ : Option Addr) (x27_ : Bool) (r28_ : Int × Int × Int × Int × Int × Int × Int × Int × Int × Int × Int × Unit) : M (Value) :=
 M.deref x.2.2.2.2.1 fun a29_ =>
 M.load (.cell .bool) 1 a29_ fun (x30_ : Bool) => cond (veqv (.bool x30_) (.bool x27_)) (M.deref x.2.2.1 fun a31_ =>
 M.load (.cell .ptr) 1 a31_ fun (x32_ : Option Addr) => cond (veqv (.pointer x32_) (.pointer x23_)) (M.callS (.one (.cell (.int .i64))) (X (.call 79 [(.pointer x23_), (.agg ⟨[(.int .i64 r28_.1), (.int .i64 r28_.2.1), (.int .i64 r28_.2.2.1), (.int .i64 r28_.2.2.2.1), (.int .u32 r28_.2.2.2.2.1), (.int .u32 r28_.2.2.2.2.2.1), (.int .u32 r28_.2.2.2.2.2.2.1), (.int .u32 r28_.2.2.2.2.2.2.2.1), (.int .u32 r28_.2.2.2.2.2.2.2.2.1), (.int .u32 r28_.2.2.2.2.2.2.2.2.2.1), (.int .u32 r28_.2.2.2.2.2.2.2.2.2.2.1)]⟩), (.slice x.2.1.1 x.2.1.2.1 x.2.1.2.2), (.bool x27_)])) fun (r33_ : Int) =>
 M.pure (.int .i64 r33_)) M.stuck) M.stuck
def f87c3 (X : Task → M Value) (L : LoopI) (x : (Int × Int × Int × Int × Int × Int × Int × Int × Int × Int × Int × Unit) × ((Option Addr × Nat × Nat)) × (Option Addr) × (Option Addr) × (Option Addr) × Unit) (x23_ : Option Addr) (x24_ : Int × Int × Int × Int × Int × Int × Int × Int × Int × Int × Int × Unit) (x25_ : Int) (x27_ : Bool) : M (Value) :=
 M.callS (.one (.agg [(.int .i64), (.int .i64), (.int .i64), (.int .i64), (.int .u32), (.int .u32), (.int .u32), (.int .u32), (.int .u32), (.int .u32), (.int .u32)])) (X (.call 77 [(.agg ⟨[(.int .i64 x24_.1), (.int .i64 x24_.2.1), (.int .i64 x24_.2.2.1), (.int .i64 x24_.2.2.2.1), (.int .u32 x24_.2.2.2.2.1), (.int .u32 x24_.2.2.2.2.2.1), (.int .u32 x24_.2.2.2.2.2.2.1), (.int .u32 x24_.2.2.2.2.2.2.2.1), (.int .u32 x24_.2.2.2.2.2.2.2.2.1), (.int .u32 x24_.2.2.2.2.2.2.2.2.2.1), (.int .u32 x24_.2.2.2.2.2.2.2.2.2.2.1)]⟩), (.int .i64 x25_)])) fun (r28_ : Int × Int × Int × Int × Int × Int × Int × Int × Int × Int × Int × Unit) =>
 f87c2 X L x x23_ x27_ r28_
def f87c4 (X : Task → M Value) (L : LoopI) (x : (Int × Int × Int × Int × Int × Int × Int × Int × Int × Int × Int × Unit) × ((Option Addr × Nat × Nat)) × (Option Addr) × (Option Addr) × (Option Addr) × Unit) (b0_ : Nat) : M (Value) :=
 M.deref x.2.2.1 fun a22_ =>
 M.load (.cell .ptr) 1 a22_ fun (x23_ : Option Addr) =>
 M.load (.agg [(.int .i64), (.int .i64), (.int .i64), (.int .i64), (.int .u32), (.int .u32), (.int .u32), (.int .u32), (.int .u32), (.int .u32), (.int .u32)]) 11 (Addr.mk b0_ 0 none) fun (x24_ : Int × Int × Int × Int × Int × Int × Int × Int × Int × Int × Int × Unit) =>
 M.load (.cell (.int .i64)) 1 ((Addr.mk b0_ 0 none).add 2) fun (x25_ : Int) =>
 M.deref x.2.2.2.2.1 fun a26_ =>
 M.load (.cell .bool) 1 a26_ fun (x27_ : Bool) =>
 f87c3 X L x x23_ x24_ x25_ x27_
def f87c5 (X : Task → M Value) (L : LoopI) (x : (Int × Int × Int × Int × Int × Int × Int × Int × Int × Int × Int × Unit) × ((Option Addr × Nat × Nat)) × (Option Addr) × (Option Addr) × (Option Addr) × Unit) (b0_ : Nat) (v1_ : Int) : M (Value) :=
 M.bind (L (σ := (Int) × Unit) (ρ := (Unit) ⊕ (((Int) × Unit) ⊕ (Unit))) (fun s2_ =>
 M.ite (decide (s2_.1 < v1_))
 (M.join (fun (j4_ : Unit) =>
 M.pure (.inl ((IntKind.i64.wrap (s2_.1 + 1)), ()))) fun go5_ =>
 M.guard (decide (0 ≤ s2_.1) && decide (s2_.1 < ((x.2.1.2.1 : Nat) : Int)))
 (M.deref x.2.1.1 fun a7_ =>
 f87c1 X L x s2_ go5_ a7_))
 (M.pure (.inr (.inl (()))))) (0, ())) <| M.sum (fun (j21_ : Unit) =>
 f87c4 X L x b0_) (M.sum (fun (j34_ : (Int) × Unit) =>
 M.pure (.int .i64 j34_.1)) (fun _ => M.stuck))
def f87 (X : Task → M Value) (L : LoopI) (x : (Int × Int × Int × Int × Int × Int × Int × Int × Int × Int × Int × Unit) × ((Option Addr × Nat × Nat)) × (Option Addr) × (Option Addr) × (Option Addr) × Unit) : M Value :=
 M.new (.cells (Row.ofList [(.int .i64 x.1.1), (.int .i64 x.1.2.1), (.int .i64 x.1.2.2.1), (.int .i64 x.1.2.2.2.1), (.int .u32 x.1.2.2.2.2.1), (.int .u32 x.1.2.2.2.2.2.1), (.int .u32 x.1.2.2.2.2.2.2.1), (.int .u32 x.1.2.2.2.2.2.2.2.1), (.int .u32 x.1.2.2.2.2.2.2.2.2.1), (.int .u32 x.1.2.2.2.2.2.2.2.2.2.1), (.int .u32 x.1.2.2.2.2.2.2.2.2.2.2.1)]) 34 false (0, 0) false) fun b0_ =>
 f87c5 X L x b0_ ((x.2.1.2.1 : Nat) : Int)

theorem e87 (X : Task → M Value) (L : LoopI) (x : (Int × Int × Int × Int × Int × Int × Int × Int × Int × Int × Int × Unit) × ((Option Addr × Nat × Nat)) × (Option Addr) × (Option Addr) × (Option Addr) × Unit) : evBody CC { call := X, loop := L } 87 (shsInj [(.agg [(.int .i64), (.int .i64), (.int .i64), (.int .i64), (.int .u32), (.int .u32), (.int .u32), (.int .u32), (.int .u32), (.int .u32), (.int .u32)]), (.cell .slice), (.cell .ptr), (.cell .ptr), (.cell .ptr)] x) = f87 X L x := by kernel_rfl

/-- hayrick/inode.Take$1 -/
def f88c0 (X : Task → M Value) (L : LoopI) (x : (Int) × (Option Addr) × Unit) (x1_ : (Option Addr × Nat × Nat)) (v2_ : Nat) (v3_ : Int) : M (Value) :=
 M.bind (L (σ := (Int) × (Int) × Unit) (ρ := ((Int) × Unit) ⊕ (Unit)) (fun s4_ =>
 M.ite (decide (s4_.2.1 < v3_))
 (M.guard (decide (0 ≤ s4_.2.1) && decide (s4_.2.1 < (((v2_ - 0) : Nat) : Int)))
 (M.deref (x1_.1.map (·.add (0 * 1))) fun a6_ =>
 M.load (.cell (.int .u8)) 1 (a6_.add ((Int.toNat s4_.2.1) * 1)) fun (x7_ : Int) =>
 M.guard (decide (0 ≤ 8))
 (M.pure (.inl ((bitsV .or .i64 (IntKind.i64.wrap (s4_.1 * 2 ^ (min (Int.toNat 8) IntKind.i64.bits))) (IntKind.i64.wrap x7_)), (IntKind.i64.wrap (s4_.2.1 + 1)), ())))))
 (M.pure (.inr (.inl (s4_.1, ()))))) (0, 0, ())) <| M.sum (fun (j12_ : (Int) × Unit) =>
 M.deref x.2.1 fun a13_ =>
 M.load (.cell .slice) 1 a13_ fun (x14_ : (Option Addr × Nat × Nat)) =>
 M.guard (decide (0 ≤ x.1) && decide (x.1 ≤ ((x14_.2.1 : Nat) : Int)))
 (let v15_ : Nat := (Int.toNat x.1)
 M.deref x.2.1 fun a16_ =>
 M.store a16_ [(.slice (x14_.1.map (·.add (v15_ * 1))) (x14_.2.1 - v15_) (x14_.2.2 - v15_))]
 (M.pure (.int .i64 j12_.1)))) (fun _ => M.stuck)
def f88 (X : Task → M Value) (L : LoopI) (x : (Int) × (Option Addr) × Unit) : M Value :=
 M.deref x.2.1 fun a0_ =>
 M.load (.cell .slice) 1 a0_ fun (x1_ : (Option Addr × Nat × Nat)) =>
 M.guard (decide (0 ≤ x.1) && decide (x.1 ≤ ((x1_.2.2 : Nat) : Int)))
 (let v2_ : Nat := (Int.toNat x.1)
 f88c0 X L x x1_ v2_ (((v2_ - 0) : Nat) : Int))

theorem e88 (X : Task → M Value) (L : LoopI) (x : (Int) × (Option Addr) × Unit) : evBody CC { call := X, loop := L } 88 (shsInj [(.cell (.int .i64)), (.cell .ptr)] x) = f88 X L x := by kernel_rfl

/-- hayrick/inode.Put -/
def f89c0 (X : Task → M Value) (L : LoopI) (b11_ : Nat) (s14_ : ((Option Addr × Nat × Nat)) × (Int) × Unit) : M ((((Option Addr × Nat × Nat)) × (Int) × Unit) ⊕ ((((Option Addr × Nat × Nat)) × Unit) ⊕ (Unit))) :=
 M.load (.cell (.int .u32)) 1 ((Addr.mk b11_ 0 none).add 0) fun (x16_ : Int) =>
 let v17_ : Int := IntKind.i64.wrap (8 * s14_.2.1)
 M.guard (decide (0 ≤ v17_))
 (M.new (.cells (Row.ofList [(.int .u8 (IntKind.u8.wrap (((x16_ : Int)).fdiv (2 ^ (min (Int.toNat v17_) IntKind.u32.bits)))))]) 5 false (0, 0) false) fun b20_ =>
 M.append 5 1 1 s14_.1.1 s14_.1.2.1 s14_.1.2.2 (.slice (some (Addr.mk b20_ 0 none)) 1 1) fun a21_ n22_ c23_ =>
 M.pure (.inl ((a21_, n22_, c23_), (IntKind.i64.wrap (s14_.2.1 - 1)), ())))
def f89c1 (X : Task → M Value) (L : LoopI) (s7_ : ((Option Addr × Nat × Nat)) × (Int) × Unit) (v10_ : List Value) (b11_ : Nat) : M ((((Option Addr × Nat × Nat)) × (Int) × Unit) ⊕ ((((Option Addr × Nat × Nat)) × Unit) ⊕ (Unit))) :=
 cond (Nat.beq v10_.length 2) (M.store (Addr.mk b11_ 0 none) v10_
 (M.load (.cell (.int .i64)) 1 ((Addr.mk b11_ 0 none).add 1) fun (x12_ : Int) =>
 M.bind (L (σ := ((Option Addr × Nat × Nat)) × (Int) × Unit) (ρ := (((Option Addr × Nat × Nat)) × Unit) ⊕ (Unit)) (fun s14_ =>
 M.ite (decide (s14_.2.1 ≥ 0))
 (f89c0 X L b11_ s14_)
 (M.pure (.inr (.inl (s14_.1, ()))))) (s7_.1, (IntKind.i64.wrap (x12_ - 1)), ())) <| M.sum (fun (j25_ : ((Option Addr × Nat × Nat)) × Unit) =>
 M.pure (.inl (j25_.1, (IntKind.i64.wrap (s7_.2.1 + 1)), ()))) (fun _ => M.stuck))) M.stuck
def f89c2 (X : Task → M Value) (L : LoopI) (r6_ : Int × Int × Int × Int × Int × Int × Int × Int × Int × Int × Int × Int × Int × Int × Int × Int × Int × Int × Int × Int × Int × Int × Unit) (s7_ : ((Option Addr × Nat × Nat)) × (Int) × Unit) : M ((((Option Addr × Nat × Nat)) × (Int) × Unit) ⊕ ((((Option Addr × Nat × Nat)) × Unit) ⊕ (Unit))) :=
 M.guard (decide (0 ≤ s7_.2.1) && decide (s7_.2.1 < ((11 : Nat) : Int)))
 (let v9_ : List Value := [(.int .u32 r6_.1), (.int .i64 r6_.2.1), (.int .u32 r6_.2.2.1), (.int .i64 r6_.2.2.2.1), (.int .u32 r6_.2.2.2.2.1), (.int .i64 r6_.2.2.2.2.2.1), (.int .u32 r6_.2.2.2.2.2.2.1), (.int .i64 r6_.2.2.2.2.2.2.2.1), (.int .u32 r6_.2.2.2.2.2.2.2.2.1), (.int .i64 r6_.2.2.2.2.2.2.2.2.2.1), (.int .u32 r6_.2.2.2.2.2.2.2.2.2.2.1), (.int .i64 r6_.2.2.2.2.2.2.2.2.2.2.2.1), (.int .u32 r6_.2.2.2.2.2.2.2.2.2.2.2.2.1), (.int .i64 r6_.2.2.2.2.2.2.2.2.2.2.2.2.2.1), (.int .u32 r6_.2.2.2.2.2.2.2.2.2.2.2.2.2.2.1), (.int .i64 r6_.2.2.2.2.2.2.2.2.2.2.2.2.2.2.2.1), (.int .u32 r6_.2.2.2.2.2.2.2.2.2.2.2.2.2.2.2.2.1), (.int .i64 r6_.2.2.2.2.2.2.2.2.2.2.2.2.2.2.2.2.2.1), (.int .u32 r6_.2.2.2.2.2.2.2.2.2.2.2.2.2.2.2.2.2.2.1), (.int .i64 r6_.2.2.2.2.2.2.2.2.2.2.2.2.2.2.2.2.2.2.2.1), (.int .u32 r6_.2.2.2.2.2.2.2.2.2.2.2.2.2.2.2.2.2.2.2.2.1), (.int .i64 r6_.2.2.2.2.2.2.2.2.2.2.2.2.2.2.2.2.2.2.2.2.2.1)]
 cond (Nat.ble (((Int.toNat s7_.2.1) * 2) + 2) v9_.length) (M.new (.cells (Row.ofList [(.int .u32 0), (.int .i64 0)]) 202 false (0, 0) false) fun b11_ =>
 f89c1 X L s7_ ((v9_.drop ((Int.toNat s7_.2.1) * 2)).take 2) b11_) M.stuck)
def f89c3 (X : Task → M Value) (L : LoopI) (b4_ : Nat) (r6_ : Int × Int × Int × Int × Int × Int × Int × Int × Int × Int × Int × Int × Int × Int × Int × Int × Int × Int × Int × Int × Int × Int × Unit) : M (Value) :=
 M.bind (L (σ := ((Option Addr × Nat × Nat)) × (Int) × Unit) (ρ := (((Option Addr × Nat × Nat)) × Unit) ⊕ (Unit)) (fun s7_ =>
 M.ite (decide (s7_.2.1 < 11))
 (f89c2 X L r6_ s7_)
 (M.pure (.inr (.inl (s7_.1, ()))))) (((some (Addr.mk b4_ 0 none)), (Int.toNat 0), (Int.toNat 112)), 0, ())) <| M.sum (fun (j27_ : ((Option Addr × Nat × Nat)) × Unit) =>
 M.guard (decide (0 ≤ 112) && decide (112 ≤ ((j27_.1.2.2 : Nat) : Int)))
 (M.pure (.tuple ⟨[(.slice (j27_.1.1.map (·.add (0 * 1))) ((Int.toNat 112) - 0) (j27_.1.2.2 - 0)), (.int .i64 0)]⟩))) (fun _ => M.stuck)
def f89c4 (X : Task → M Value) (L : LoopI) (b4_ : Nat) (x5_ : Int × Int × Int × Int × Int × Int × Int × Int × Int × Int × Int × Unit) : M (Value) :=
 M.callS (.one (.agg [(.int .u32), (.int .i64), (.int .u32), (.int .i64), (.int .u32), (.int .i64), (.int .u32), (.int .i64), (.int .u32), (.int .i64), (.int .u32), (.int .i64), (.int .u32), (.int .i64), (.int .u32), (.int .i64), (.int .u32), (.int .i64), (.int .u32), (.int .i64), (.int .u32), (.int .i64)])) (X (.call 112 [(.agg ⟨[(.int .i64 x5_.1), (.int .i64 x5_.2.1), (.int .i64 x5_.2.2.1), (.int .i64 x5_.2.2.2.1), (.int .u32 x5_.2.2.2.2.1), (.int .u32 x5_.2.2.2.2.2.1), (.int .u32 x5_.2.2.2.2.2.2.1), (.int .u32 x5_.2.2.2.2.2.2.2.1), (.int .u32 x5_.2.2.2.2.2.2.2.2.1), (.int .u32 x5_.2.2.2.2.2.2.2.2.2.1), (.int .u32 x5_.2.2.2.2.2.2.2.2.2.2.1)]⟩)])) fun (r6_ : Int × Int × Int × Int × Int × Int × Int × Int × Int × Int × Int × Int × Int × Int × Int × Int × Int × Int × Int × Int × Int × Int × Unit) =>
 f89c3 X L b4_ r6_
def f89c5 (X : Task → M Value) (L : LoopI) (b0_ : Nat) (v3_ : Bool) : M (Value) :=
 M.ite v3_
 (M.pure (.tuple ⟨[(.slice none 0 0), (.int .i64 1)]⟩))
 (M.guard (decide (0 ≤ 0) && decide (0 ≤ 112) && decide ((1 : Int) * 112 ≤ 2 ^ 48))
 (M.new (.cells (Row.rep [(.int .u8 0)] (Int.toNat 112)) 5 false (0, 0) false) fun b4_ =>
 M.load (.agg [(.int .i64), (.int .i64), (.int .i64), (.int .i64), (.int .u32), (.int .u32), (.int .u32), (.int .u32), (.int .u32), (.int .u32), (.int .u32)]) 11 (Addr.mk b0_ 0 none) fun (x5_ : Int × Int × Int × Int × Int × Int × Int × Int × Int × Int × Int × Unit) =>
 f89c4 X L b4_ x5_))
def f89c6 (X : Task → M Value) (L : LoopI) (b0_ : Nat) : M (Value) :=
 M.load (.agg [(.int .i64), (.int .i64), (.int .i64), (.int .i64), (.int .u32), (.int .u32), (.int .u32), (.int .u32), (.int .u32), (.int .u32), (.int .u32)]) 11 (Addr.mk b0_ 0 none) fun (x1_ : Int × Int × Int × Int × Int × Int × Int × Int × Int × Int × Int × Unit) =>
 M.callS (.one (.cell .bool)) (X (.call 46 [(.agg ⟨[(.int .i64 x1_.1), (.int .i64 x1_.2.1), (.int .i64 x1_.2.2.1), (.int .i64 x1_.2.2.2.1), (.int .u32 x1_.2.2.2.2.1), (.int .u32 x1_.2.2.2.2.2.1), (.int .u32 x1_.2.2.2.2.2.2.1), (.int .u32 x1_.2.2.2.2.2.2.2.1), (.int .u32 x1_.2.2.2.2.2.2.2.2.1), (.int .u32 x1_.2.2.2.2.2.2.2.2.2.1), (.int .u32 x1_.2.2.2.2.2.2.2.2.2.2.1)]⟩)])) fun (r2_ : Bool) =>
 f89c5 X L b0_ (!r2_)
def f89 (X : Task → M Value) (L : LoopI) (x : (Int × Int × Int × Int × Int × Int × Int × Int × Int × Int × Int × Unit) × Unit) : M Value :=
 M.new (.cells (Row.ofList [(.int .i64 x.1.1), (.int .i64 x.1.2.1), (.int .i64 x.1.2.2.1), (.int .i64 x.1.2.2.2.1), (.int .u32 x.1.2.2.2.2.1), (.int .u32 x.1.2.2.2.2.2.1), (.int .u32 x.1.2.2.2.2.2.2.1), (.int .u32 x.1.2.2.2.2.2.2.2.1), (.int .u32 x.1.2.2.2.2.2.2.2.2.1), (.int .u32 x.1.2.2.2.2.2.2.2.2.2.1), (.int .u32 x.1.2.2.2.2.2.2.2.2.2.2.1)]) 34 false (0, 0) false) fun b0_ =>
 f89c6 X L b0_

theorem e89 (X : Task → M Value) (L : LoopI) (x : (Int × Int × Int × Int × Int × Int × Int × Int × Int × Int × Int × Unit) × Unit) : evBody CC { call := X, loop := L } 89 (shsInj [(.agg [(.int .i64), (.int .i64), (.int .i64), (.int .i64), (.int .u32), (.int .u32), (.int .u32), (.int .u32), (.int .u32), (.int .u32), (.int .u32)])] x) = f89 X L x := by kernel_rfl

/-- slices.Equal[[]byte,byte] -/
def f90c0 (X : Task → M Value) (L : LoopI) (x : ((Option Addr × Nat × Nat)) × ((Option Addr × Nat × Nat)) × Unit) (s4_ : (Int) × Unit) (v5_ : Bool) : M (((Int) × Unit) ⊕ ((Unit) ⊕ (((Bool) × Unit) ⊕ (Unit)))) :=
 M.ite v5_
 (M.guard (decide (0 ≤ s4_.1) && decide (s4_.1 < ((x.1.2.1 : Nat) : Int)))
 (M.deref x.1.1 fun a6_ =>
 M.load (.cell (.int .u8)) 1 (a6_.add ((Int.toNat s4_.1) * 1)) fun (x7_ : Int) =>
 M.guard (decide (0 ≤ s4_.1) && decide (s4_.1 < ((x.2.1.2.1 : Nat) : Int)))
 (M.deref x.2.1.1 fun a8_ =>
 M.load (.cell (.int .u8)) 1 (a8_.add ((Int.toNat s4_.1) * 1)) fun (x9_ : Int) =>
 M.ite (!(x7_ == x9_))
 (M.pure (.inr (.inr (.inl (false, ())))))
 (M.pure (.inl ((IntKind.i64.wrap (s4_.1 + 1)), ()))))))
 (M.pure (.inr (.inl (()))))
def f90 (X : Task → M Value) (L : LoopI) (x : ((Option Addr × Nat × Nat)) × ((Option Addr × Nat × Nat)) × Unit) : M Value :=
 M.ite (!(((x.1.2.1 : Nat) : Int) == ((x.2.1.2.1 : Nat) : Int)))
 (M.pure (.bool false))
 (M.bind (L (σ := (Int) × Unit) (ρ := (Unit) ⊕ (((Bool) × Unit) ⊕ (Unit))) (fun s4_ =>
 f90c0 X L x s4_ (decide (s4_.1 < ((x.1.2.1 : Nat) : Int)))) (0, ())) <| M.sum (fun (j12_ : Unit) =>
 M.pure (.bool true)) (M.sum (fun (j13_ : (Bool) × Unit) =>
 M.pure (.bool j13_.1)) (fun _ => M.stuck)))

theorem e90 (X : Task → M Value) (L : LoopI) (x : ((Option Addr × Nat × Nat)) × ((Option Addr × Nat × Nat)) × Unit) : evBody CC { call := X, loop := L } 90 (shsInj [(.cell .slice), (.cell .slice)] x) = f90 X L x := by kernel_rfl

/-- slices.ContainsFunc[[]uint32,uint32] -/
def f91 (X : Task → M Value) (L : LoopI) (x : ((Option Addr × Nat × Nat)) × (Value) × Unit) : M Value :=
 M.callS (.one (.cell (.int .i64))) (X (.call 113 [(.slice x.1.1 x.1.2.1 x.1.2.2), x.2.1])) fun (r0_ : Int) =>
 M.pure (.bool (decide (r0_ ≥ 0)))

theorem e91 (X : Task → M Value) (L : LoopI) (x : ((Option Addr × Nat × Nat)) × (Value) × Unit) : evBody CC { call := X, loop := L } 91 (shsInj [(.cell .slice), (.cell .val)] x) = f91 X L x := by kernel_rfl

/-- hayrick/inode.May$1 -/
def f92 (X : Task → M Value) (L : LoopI) (x : (Int) × Unit) : M Value :=
 M.pure (.bool (!(x.1 == 0)))

theorem e92 (X : Task → M Value) (L : LoopI) (x : (Int) × Unit) : evBody CC { call := X, loop := L } 92 (shsInj [(.cell (.int .u32))] x) = f92 X L x := by kernel_rfl

/-- slices.Chunk[[]byte,byte] -/
def f93 (X : Task → M Value) (L : LoopI) (x : ((Option Addr × Nat × Nat)) × (Int) × Unit) : M Value :=
 M.new (.cells (Row.ofList [(.slice x.1.1 x.1.2.1 x.1.2.2)]) 49 false (0, 0) false) fun b0_ =>
 M.new (.cells (Row.ofList [(.int .i64 x.2.1)]) 3 false (0, 0) false) fun b1_ =>
 M.join (fun (j2_ : Unit) =>
 M.pure (.func (.func 114) ⟨[]⟩ ⟨[(.pointer (some (Addr.mk b0_ 0 none))), (.pointer (some (Addr.mk b1_ 0 none)))]⟩)) fun go3_ =>
 M.load (.cell (.int .i64)) 1 (Addr.mk b1_ 0 none) fun (x4_ : Int) =>
 M.ite (decide (x4_ < 1))
 (M.throw (.iface 9 (.string st4)))
 (go3_ (()))

theorem e93 (X : Task → M Value) (L : LoopI) (x : ((Option Addr × Nat × Nat)) × (Int) × Unit) : evBody CC { call := X, loop := L } 93 (shsInj [(.cell .slice), (.cell (.int .i64))] x) = f93 X L x := by kernel_rfl

/-- hayrick/points.At -/
def f94 (X : Task → M Value) (L : LoopI) (x : (Int) × Unit) : M Value :=
 M.join (fun (j0_ : (Bool) × Unit) =>
 M.ite j0_.1
 (M.pure (.tuple ⟨[(.bool false), (.int .i64 0), (.bool false)]⟩))
 (M.ite (decide (x.1 < 6))
 (M.pure (.tuple ⟨[(.bool true), (.int .i64 x.1), (.bool true)]⟩))
 (M.pure (.tuple ⟨[(.bool false), (.int .i64 (IntKind.i64.wrap (x.1 - 6))), (.bool true)]⟩)))) fun go1_ =>
 M.ite (decide (x.1 < 0))
 (go1_ (true, ()))
 (go1_ ((decide (x.1 ≥ 34)), ()))

theorem e94 (X : Task → M Value) (L : LoopI) (x : (Int) × Unit) : evBody CC { call := X, loop := L } 94 (shsInj [(.cell (.int .i64))] x) = f94 X L x := by kernel_rfl

/-- hayrick/array.New -/
def f95c0 (X : Task → M Value) (L : LoopI) (x : (Int) × (Int) × Unit) (b2_ : Nat) (s3_ : (Int) × Unit) (x5_ : (Option Addr × Nat × Nat)) : M (((Int) × Unit) ⊕ ((Unit) ⊕ (Unit))) :=
 M.guard (decide (0 ≤ x.2.1) && decide (x.2.1 ≤ x.2.1) && decide ((64 : Int) * x.2.1 ≤ 2 ^ 48))
 (M.new (.cells (Row.rep (zc 183) (Int.toNat x.2.1)) 183 false (0, 0) false) fun b6_ =>
 M.new (.cells (Row.ofList [(.slice (some (Addr.mk b6_ 0 none)) (Int.toNat x.2.1) (Int.toNat x.2.1))]) 207 false (0, 0) false) fun b7_ =>
 M.append 207 1 24 x5_.1 x5_.2.1 x5_.2.2 (.slice (some (Addr.mk b7_ 0 none)) 1 1) fun a8_ n9_ c10_ =>
 M.store ((Addr.mk b2_ 0 none).add 1) [(.slice a8_ n9_ c10_)]
 (M.pure (.inl ((IntKind.i64.wrap (s3_.1 + 1)), ()))))
def f95c1 (X : Task → M Value) (L : LoopI) (x : (Int) × (Int) × Unit) : M (Value) :=
 M.new (.cells (Row.ofList [(.int .i64 x.2.1), (.slice none 0 0), (.slice none 0 0), (.int .i64 0), (.bool false)]) 133 false (0, 0) false) fun b2_ =>
 M.bind (L (σ := (Int) × Unit) (ρ := (Unit) ⊕ (Unit)) (fun s3_ =>
 M.ite (decide (s3_.1 < x.1))
 (M.load (.cell .slice) 1 ((Addr.mk b2_ 0 none).add 1) fun (x5_ : (Option Addr × Nat × Nat)) =>
 f95c0 X L x b2_ s3_ x5_)
 (M.pure (.inr (.inl (()))))) (0, ())) <| M.sum (fun (j12_ : Unit) =>
 M.pure (.tuple ⟨[(.pointer (some (Addr.mk b2_ 0 none))), (.int .i64 0)]⟩)) (fun _ => M.stuck)
def f95 (X : Task → M Value) (L : LoopI) (x : (Int) × (Int) × Unit) : M Value :=
 M.join (fun (j0_ : (Bool) × Unit) =>
 M.ite j0_.1
 (M.pure (.tuple ⟨[(.pointer none), (.int .i64 1)]⟩))
 (f95c1 X L x)) fun go1_ =>
 M.ite (decide (x.1 < 1))
 (go1_ (true, ()))
 (M.ite (decide (x.1 > 255))
 (go1_ (true, ()))
 (M.ite (decide (x.2.1 < 1))
 (go1_ (true, ()))
 (go1_ ((decide (x.2.1 > 4096)), ()))))

theorem e95 (X : Task → M Value) (L : LoopI) (x : (Int) × (Int) × Unit) : evBody CC { call := X, loop := L } 95 (shsInj [(.cell (.int .i64)), (.cell (.int .i64))] x) = f95 X L x := by kernel_rfl

/-- hayrick/hayrickref06.New -/
def f96c0 (X : Task → M Value) (L : LoopI) (b2_ : Nat) (s3_ : (Int) × Unit) (x5_ : (Option Addr × Nat × Nat)) (r6_ : (Option Addr × Nat × Nat) × Bool × Unit) : M (((Int) × Unit) ⊕ ((Unit) ⊕ (Unit))) :=
 M.load (.cell .slice) 1 ((Addr.mk b2_ 0 none).add 0) fun (x7_ : (Option Addr × Nat × Nat)) => cond (veqv (.slice x7_.1 x7_.2.1 x7_.2.2) (.slice x5_.1 x5_.2.1 x5_.2.2)) (M.new (.cells (Row.ofList [(.slice r6_.1.1 r6_.1.2.1 r6_.1.2.2), (.bool r6_.2.1)]) 213 false (0, 0) false) fun b8_ =>
 M.append 213 2 32 x5_.1 x5_.2.1 x5_.2.2 (.slice (some (Addr.mk b8_ 0 none)) 1 1) fun a9_ n10_ c11_ =>
 M.store ((Addr.mk b2_ 0 none).add 0) [(.slice a9_ n10_ c11_)]
 (M.pure (.inl ((IntKind.i64.wrap (s3_.1 + 1)), ())))) M.stuck
def f96c1 (X : Task → M Value) (L : LoopI) (x : (Int) × (Int) × Unit) (b2_ : Nat) : M (Value) :=
 M.bind (L (σ := (Int) × Unit) (ρ := (Unit) ⊕ (Unit)) (fun s3_ =>
 M.ite (decide (s3_.1 < x.1))
 (M.load (.cell .slice) 1 ((Addr.mk b2_ 0 none).add 0) fun (x5_ : (Option Addr × Nat × Nat)) =>
 M.callS (.one (.agg [.slice, .bool])) (X (.call 115 [(.int .i64 x.2.1)])) fun (r6_ : (Option Addr × Nat × Nat) × Bool × Unit) =>
 f96c0 X L b2_ s3_ x5_ r6_)
 (M.pure (.inr (.inl (()))))) (0, ())) <| M.sum (fun (j13_ : Unit) =>
 M.pure (.tuple ⟨[(.pointer (some (Addr.mk b2_ 0 none))), (.int .i64 0)]⟩)) (fun _ => M.stuck)
def f96 (X : Task → M Value) (L : LoopI) (x : (Int) × (Int) × Unit) : M Value :=
 M.join (fun (j0_ : (Bool) × Unit) =>
 M.ite j0_.1
 (M.pure (.tuple ⟨[(.pointer none), (.int .i64 1)]⟩))
 (M.new (.cells (Row.ofList [(.slice none 0 0), (.int .i64 x.2.1), (.slice none 0 0), (.int .i64 0), (.bool false)]) 211 false (0, 0) false) fun b2_ =>
 f96c1 X L x b2_)) fun go1_ =>
 M.ite (decide (x.1 < 1))
 (go1_ (true, ()))
 (M.ite (decide (x.1 > 255))
 (go1_ (true, ()))
 (M.ite (decide (x.2.1 < 1))
 (go1_ (true, ()))
 (go1_ ((decide (x.2.1 > 4096)), ()))))

theorem e96 (X : Task → M Value) (L : LoopI) (x : (Int) × (Int) × Unit) : evBody CC { call := X, loop := L } 96 (shsInj [(.cell (.int .i64)), (.cell (.int .i64))] x) = f96 X L x := by kernel_rfl

/-- hayrick/stripe.New -/
def f97c0 (X : Task → M Value) (L : LoopI) (x : (Option Addr) × (Int × Int × Int × Unit) × (Int) × Unit) (b0_ : Nat) (go4_ : ((Bool) × Unit) → M (Value)) (x16_ : Int) (r17_ : Int) : M (Value) :=
 M.load (.cell (.int .i64)) 1 ((Addr.mk b0_ 0 none).add 1) fun (x18_ : Int) => cond (veqv (.int .i64 x18_) (.int .i64 x16_)) (M.ite (!(r17_ == x16_))
 (go4_ (true, ()))
 (M.load (.cell (.int .i64)) 1 ((Addr.mk b0_ 0 none).add 2) fun (x20_ : Int) =>
 M.callS (.one (.cell (.int .i64))) (X (.call 118 [(.pointer x.1)])) fun (r22_ : Int) =>
 M.load (.cell (.int .i64)) 1 ((Addr.mk b0_ 0 none).add 2) fun (x23_ : Int) => cond (veqv (.int .i64 x23_) (.int .i64 x20_)) (go4_ ((decide ((IntKind.i64.wrap (r22_ - x.2.2.1)) < (IntKind.i64.wrap (x20_ * 8)))), ())) M.stuck)) M.stuck
def f97c1 (X : Task → M Value) (L : LoopI) (x : (Option Addr) × (Int × Int × Int × Unit) × (Int) × Unit) (b0_ : Nat) (go4_ : ((Bool) × Unit) → M (Value)) (v10_ : Bool) : M (Value) :=
 M.ite v10_
 (go4_ (true, ()))
 (M.load (.cell (.int .i64)) 1 ((Addr.mk b0_ 0 none).add 2) fun (x11_ : Int) =>
 M.ite (decide (x11_ < 1))
 (go4_ (true, ()))
 (M.load (.cell (.int .i64)) 1 ((Addr.mk b0_ 0 none).add 2) fun (x13_ : Int) =>
 M.ite (decide (x13_ > 128))
 (go4_ (true, ()))
 (M.ite (decide (x.2.2.1 < 0))
 (go4_ (true, ()))
 (M.load (.cell (.int .i64)) 1 ((Addr.mk b0_ 0 none).add 1) fun (x16_ : Int) =>
 M.callS (.one (.cell (.int .i64))) (X (.call 116 [(.pointer x.1)])) fun (r17_ : Int) =>
 f97c0 X L x b0_ go4_ x16_ r17_))))
def f97c2 (X : Task → M Value) (L : LoopI) (x : (Option Addr) × (Int × Int × Int × Unit) × (Int) × Unit) (b0_ : Nat) : M (Value) :=
 M.join (fun (j3_ : (Bool) × Unit) =>
 M.ite j3_.1
 (M.pure (.tuple ⟨[(.pointer none), (.int .i64 1)]⟩))
 (M.load (.agg [(.int .i64), (.int .i64), (.int .i64)]) 3 (Addr.mk b0_ 0 none) fun (x5_ : Int × Int × Int × Unit) =>
 M.new (.cells (Row.ofList [(.pointer x.1), (.int .i64 x5_.1), (.int .i64 x5_.2.1), (.int .i64 x5_.2.2.1), (.int .i64 x.2.2.1)]) 129 false (0, 0) false) fun b6_ =>
 M.pure (.tuple ⟨[(.pointer (some (Addr.mk b6_ 0 none))), (.int .i64 0)]⟩))) fun go4_ =>
 M.load (.cell (.int .i64)) 1 ((Addr.mk b0_ 0 none).add 0) fun (x7_ : Int) =>
 M.load (.cell (.int .i64)) 1 ((Addr.mk b0_ 0 none).add 1) fun (x8_ : Int) =>
 M.callS (.one (.cell .bool)) (X (.call 117 [(.int .i64 x7_), (.int .i64 x8_)])) fun (r9_ : Bool) =>
 f97c1 X L x b0_ go4_ (!r9_)
def f97 (X : Task → M Value) (L : LoopI) (x : (Option Addr) × (Int × Int × Int × Unit) × (Int) × Unit) : M Value :=
 M.new (.cells (Row.ofList [(.int .i64 x.2.1.1), (.int .i64 x.2.1.2.1), (.int .i64 x.2.1.2.2.1)]) 127 false (0, 0) false) fun b0_ =>
 M.callS (.one (.cell (.int .i64))) (X (.call 116 [(.pointer x.1)])) fun (r1_ : Int) =>
 M.ite (r1_ == 0)
 (M.pure (.tuple ⟨[(.pointer none), (.int .i64 2)]⟩))
 (f97c2 X L x b0_)

theorem e97 (X : Task → M Value) (L : LoopI) (x : (Option Addr) × (Int × Int × Int × Unit) × (Int) × Unit) : evBody CC { call := X, loop := L } 97 (shsInj [(.cell .ptr), (.agg [(.int .i64), (.int .i64), (.int .i64)]), (.cell (.int .i64))] x) = f97 X L x := by kernel_rfl

/-- hayrick/hayrickref08.New -/
def f98c0 (X : Task → M Value) (L : LoopI) (x : (Option Addr) × (Int × Int × Int × Unit) × (Int) × Unit) (b0_ : Nat) (go4_ : ((Bool) × Unit) → M (Value)) (v9_ : Int) : M (Value) :=
 M.load (.cell (.int .i64)) 1 ((Addr.mk b0_ 0 none).add 1) fun (x10_ : Int) =>
 M.ite (!(v9_ == x10_))
 (go4_ (true, ()))
 (M.deref x.1 fun a12_ =>
 M.load (.cell (.int .i64)) 1 (a12_.add 1) fun (x13_ : Int) =>
 M.ite (decide (x13_ < x.2.2.1))
 (go4_ (true, ()))
 (M.deref x.1 fun a15_ =>
 M.load (.cell (.int .i64)) 1 (a15_.add 1) fun (x16_ : Int) =>
 M.load (.cell (.int .i64)) 1 ((Addr.mk b0_ 0 none).add 2) fun (x18_ : Int) =>
 go4_ ((decide ((IntKind.i64.wrap (x16_ - x.2.2.1)) < (IntKind.i64.wrap (8 * x18_)))), ())))
def f98c1 (X : Task → M Value) (L : LoopI) (x : (Option Addr) × (Int × Int × Int × Unit) × (Int) × Unit) (b0_ : Nat) : M (Value) :=
 M.join (fun (j3_ : (Bool) × Unit) =>
 M.ite j3_.1
 (M.pure (.tuple ⟨[(.pointer none), (.int .i64 1)]⟩))
 (M.load (.agg [(.int .i64), (.int .i64), (.int .i64)]) 3 (Addr.mk b0_ 0 none) fun (x5_ : Int × Int × Int × Unit) =>
 M.new (.cells (Row.ofList [(.pointer x.1), (.int .i64 x5_.1), (.int .i64 x5_.2.1), (.int .i64 x5_.2.2.1), (.int .i64 x.2.2.1)]) 173 false (0, 0) false) fun b6_ =>
 M.pure (.tuple ⟨[(.pointer (some (Addr.mk b6_ 0 none))), (.int .i64 0)]⟩))) fun go4_ =>
 M.deref x.1 fun a7_ =>
 M.load (.cell .slice) 1 (a7_.add 0) fun (x8_ : (Option Addr × Nat × Nat)) =>
 f98c0 X L x b0_ go4_ ((x8_.2.1 : Nat) : Int)
def f98c2 (X : Task → M Value) (L : LoopI) (x : (Option Addr) × (Int × Int × Int × Unit) × (Int) × Unit) (b0_ : Nat) (go2_ : ((Bool) × Unit) → M (Value)) : M (Value) :=
 M.load (.cell (.int .i64)) 1 ((Addr.mk b0_ 0 none).add 0) fun (x21_ : Int) =>
 M.load (.cell (.int .i64)) 1 ((Addr.mk b0_ 0 none).add 1) fun (x22_ : Int) =>
 M.callS (.one (.cell .bool)) (X (.call 119 [(.int .i64 x21_), (.int .i64 x22_)])) fun (r23_ : Bool) =>
 M.ite (!r23_)
 (go2_ (true, ()))
 (M.load (.cell (.int .i64)) 1 ((Addr.mk b0_ 0 none).add 2) fun (x25_ : Int) =>
 M.ite (decide (x25_ < 1))
 (go2_ (true, ()))
 (M.load (.cell (.int .i64)) 1 ((Addr.mk b0_ 0 none).add 2) fun (x27_ : Int) =>
 M.ite (decide (x27_ > 128))
 (go2_ (true, ()))
 (go2_ ((decide (x.2.2.1 < 0)), ()))))
def f98 (X : Task → M Value) (L : LoopI) (x : (Option Addr) × (Int × Int × Int × Unit) × (Int) × Unit) : M Value :=
 M.new (.cells (Row.ofList [(.int .i64 x.2.1.1), (.int .i64 x.2.1.2.1), (.int .i64 x.2.1.2.2.1)]) 127 false (0, 0) false) fun b0_ =>
 M.join (fun (j1_ : (Bool) × Unit) =>
 M.ite j1_.1
 (M.pure (.tuple ⟨[(.pointer none), (.int .i64 1)]⟩))
 (f98c1 X L x b0_)) fun go2_ =>
 f98c2 X L x b0_ go2_

theorem e98 (X : Task → M Value) (L : LoopI) (x : (Option Addr) × (Int × Int × Int × Unit) × (Int) × Unit) : evBody CC { call := X, loop := L } 98 (shsInj [(.cell .ptr), (.agg [(.int .i64), (.int .i64), (.int .i64)]), (.cell (.int .i64))] x) = f98 X L x := by kernel_rfl

/-- hayrick/hayrickref17.slots -/
def f99c0 (X : Task → M Value) (L : LoopI) (x : ((Option Addr × Nat × Nat)) × (Int) × (Int) × Unit) (b0_ : Nat) (s1_ : (Int) × Unit) (x7_ : Int) : M (((Int) × Unit) ⊕ ((Unit) ⊕ ((((Option Addr × Nat × Nat)) × (Bool) × Unit) ⊕ (Unit)))) :=
 M.load (.cell .bool) 1 ((Addr.mk b0_ 0 none).add ((Int.toNat x7_) * 1)) fun (x8_ : Bool) =>
 M.ite x8_
 (M.pure (.inr (.inr (.inl ((none, 0, 0), false, ())))))
 (M.guard (decide (0 ≤ s1_.1) && decide (s1_.1 < ((x.1.2.1 : Nat) : Int)))
 (M.deref x.1.1 fun a9_ =>
 M.load (.cell (.int .i64)) 1 (a9_.add ((Int.toNat s1_.1) * 1)) fun (x10_ : Int) =>
 M.guard (decide (0 ≤ x10_) && decide (x10_ < (((Int.toNat x.2.1) : Nat) : Int)))
 (M.store ((Addr.mk b0_ 0 none).add ((Int.toNat x10_) * 1)) [(.bool true)]
 (M.pure (.inl ((IntKind.i64.wrap (s1_.1 + 1)), ()))))))
def f99c1 (X : Task → M Value) (L : LoopI) (x : ((Option Addr × Nat × Nat)) × (Int) × (Int) × Unit) (s1_ : (Int) × Unit) (go5_ : ((Bool) × Unit) → M (((Int) × Unit) ⊕ ((Unit) ⊕ ((((Option Addr × Nat × Nat)) × (Bool) × Unit) ⊕ (Unit))))) (a12_ : Addr) : M (((Int) × Unit) ⊕ ((Unit) ⊕ ((((Option Addr × Nat × Nat)) × (Bool) × Unit) ⊕ (Unit)))) :=
 M.load (.cell (.int .i64)) 1 (a12_.add ((Int.toNat s1_.1) * 1)) fun (x13_ : Int) =>
 M.ite (decide (x13_ < 0))
 (go5_ (true, ()))
 (M.guard (decide (0 ≤ s1_.1) && decide (s1_.1 < ((x.1.2.1 : Nat) : Int)))
 (M.deref x.1.1 fun a15_ =>
 M.load (.cell (.int .i64)) 1 (a15_.add ((Int.toNat s1_.1) * 1)) fun (x16_ : Int) =>
 M.ite (decide (x16_ ≥ x.2.1))
 (go5_ (true, ()))
 (M.guard (decide (0 ≤ s1_.1) && decide (s1_.1 < ((x.1.2.1 : Nat) : Int)))
 (M.deref x.1.1 fun a18_ =>
 M.load (.cell (.int .i64)) 1 (a18_.add ((Int.toNat s1_.1) * 1)) fun (x19_ : Int) =>
 go5_ ((x19_ == x.2.2.1), ())))))
def f99c2 (X : Task → M Value) (L : LoopI) (x : ((Option Addr × Nat × Nat)) × (Int) × (Int) × Unit) (b0_ : Nat) (s1_ : (Int) × Unit) : M (((Int) × Unit) ⊕ ((Unit) ⊕ ((((Option Addr × Nat × Nat)) × (Bool) × Unit) ⊕ (Unit)))) :=
 M.join (fun (j4_ : (Bool) × Unit) =>
 M.ite j4_.1
 (M.pure (.inr (.inr (.inl ((none, 0, 0), false, ())))))
 (M.guard (decide (0 ≤ s1_.1) && decide (s1_.1 < ((x.1.2.1 : Nat) : Int)))
 (M.deref x.1.1 fun a6_ =>
 M.load (.cell (.int .i64)) 1 (a6_.add ((Int.toNat s1_.1) * 1)) fun (x7_ : Int) =>
 M.guard (decide (0 ≤ x7_) && decide (x7_ < (((Int.toNat x.2.1) : Nat) : Int)))
 (f99c0 X L x b0_ s1_ x7_)))) fun go5_ =>
 M.guard (decide (0 ≤ s1_.1) && decide (s1_.1 < ((x.1.2.1 : Nat) : Int)))
 (M.deref x.1.1 fun a12_ =>
 f99c1 X L x s1_ go5_ a12_)
def f99c3 (X : Task → M Value) (L : LoopI) (x : ((Option Addr × Nat × Nat)) × (Int) × (Int) × Unit) (b0_ : Nat) : M (Value) :=
 M.bind (L (σ := (Int) × Unit) (ρ := (Unit) ⊕ ((((Option Addr × Nat × Nat)) × (Bool) × Unit) ⊕ (Unit))) (fun s1_ =>
 M.ite (decide (s1_.1 < ((x.1.2.1 : Nat) : Int)))
 (f99c2 X L x b0_ s1_)
 (M.pure (.inr (.inl (()))))) (0, ())) <| M.sum (fun (j21_ : Unit) =>
 M.pure (.tuple ⟨[(.slice (some (Addr.mk b0_ 0 none)) (Int.toNat x.2.1) (Int.toNat x.2.1)), (.bool true)]⟩)) (M.sum (fun (j22_ : ((Option Addr × Nat × Nat)) × (Bool) × Unit) =>
 M.pure (.tuple ⟨[(.slice j22_.1.1 j22_.1.2.1 j22_.1.2.2), (.bool j22_.2.1)]⟩)) (fun _ => M.stuck))
def f99 (X : Task → M Value) (L : LoopI) (x : ((Option Addr × Nat × Nat)) × (Int) × (Int) × Unit) : M Value :=
 M.guard (decide (0 ≤ x.2.1) && decide (x.2.1 ≤ x.2.1) && decide ((1 : Int) * x.2.1 ≤ 2 ^ 48))
 (M.new (.cells (Row.rep [(.bool false)] (Int.toNat x.2.1)) 4 false (0, 0) false) fun b0_ =>
 f99c3 X L x b0_)

theorem e99 (X : Task → M Value) (L : LoopI) (x : ((Option Addr × Nat × Nat)) × (Int) × (Int) × Unit) : evBody CC { call := X, loop := L } 99 (shsInj [(.cell .slice), (.cell (.int .i64)), (.cell (.int .i64))] x) = f99 X L x := by kernel_rfl

/-- hayrick/summary.right -/
def f100 (X : Task → M Value) (L : LoopI) (x : (Int) × Unit) : M Value :=
 M.join (fun (j0_ : (Bool) × Unit) =>
 M.pure (.bool j0_.1)) fun go1_ =>
 M.ite (decide (x.1 ≥ 1))
 (go1_ ((decide (x.1 ≤ 254)), ()))
 (go1_ (false, ()))

theorem e100 (X : Task → M Value) (L : LoopI) (x : (Int) × Unit) : evBody CC { call := X, loop := L } 100 (shsInj [(.cell (.int .i64))] x) = f100 X L x := by kernel_rfl

/-- hayrick/summary.Put -/
def f101c0 (X : Task → M Value) (L : LoopI) (s3_ : (Int) × Unit) (x6_ : Int × Bool × Int × Int × Unit) (b7_ : Nat) : M (((Int) × Unit) ⊕ ((Unit) ⊕ ((((Option Addr × Nat × Nat)) × (Int) × Unit) ⊕ (Unit)))) :=
 M.store (Addr.mk b7_ 0 none) [(.int .i64 x6_.1), (.bool x6_.2.1), (.int .i64 x6_.2.2.1), (.int .i64 x6_.2.2.2.1)]
 (M.load (.agg [(.int .i64), .bool, (.int .i64), (.int .i64)]) 4 (Addr.mk b7_ 0 none) fun (x8_ : Int × Bool × Int × Int × Unit) =>
 M.callS (.one (.cell .bool)) (X (.call 54 [(.agg ⟨[(.int .i64 x8_.1), (.bool x8_.2.1), (.int .i64 x8_.2.2.1), (.int .i64 x8_.2.2.2.1)]⟩)])) fun (r9_ : Bool) =>
 M.ite (!r9_)
 (M.pure (.inr (.inr (.inl ((none, 0, 0), 1, ())))))
 (M.pure (.inl ((IntKind.i64.wrap (s3_.1 + 1)), ()))))
def f101c1 (X : Task → M Value) (L : LoopI) (b18_ : Nat) (go23_ : (Unit) → M (((Int) × Unit) ⊕ ((Unit) ⊕ (Unit)))) (b27_ : Nat) (v31_ : Nat) (v32_ : Nat) (x40_ : Int) (v41_ : Int) : M (((Int) × Unit) ⊕ ((Unit) ⊕ (Unit))) :=
 M.load (.cell (.int .i64)) 1 ((Addr.mk b27_ 0 none).add 3) fun (x47_ : Int) => cond (veqv (.int .i64 x47_) (.int .i64 x40_)) (M.guard (decide (0 ≤ 7) && decide (7 < (((v31_ - v32_) : Nat) : Int)))
 (M.store (((Addr.mk b18_ 0 none).add (v32_ * 1)).add ((Int.toNat 7) * 1)) [(.int .u8 v41_)]
 (M.load (.cell .bool) 1 ((Addr.mk b27_ 0 none).add 1) fun (x48_ : Bool) =>
 M.ite x48_
 (M.guard (decide (0 ≤ 1) && decide (1 < (((v31_ - v32_) : Nat) : Int)))
 (M.store (((Addr.mk b18_ 0 none).add (v32_ * 1)).add ((Int.toNat 1) * 1)) [(.int .u8 1)]
 (go23_ (()))))
 (go23_ (()))))) M.stuck
def f101c2 (X : Task → M Value) (L : LoopI) (b18_ : Nat) (go23_ : (Unit) → M (((Int) × Unit) ⊕ ((Unit) ⊕ (Unit)))) (b27_ : Nat) (v31_ : Nat) (v32_ : Nat) (v37_ : Int) (x38_ : Int) (v39_ : Int) (x40_ : Int) (v41_ : Int) : M (((Int) × Unit) ⊕ ((Unit) ⊕ (Unit))) :=
 M.store (((Addr.mk b18_ 0 none).add (v32_ * 1)).add ((Int.toNat 2) * 1)) [(.int .u8 v37_)]
 (M.load (.cell (.int .i64)) 1 ((Addr.mk b27_ 0 none).add 3) fun (x45_ : Int) => cond (veqv (.int .i64 x45_) (.int .i64 x40_)) (M.load (.cell (.int .i64)) 1 ((Addr.mk b27_ 0 none).add 2) fun (x46_ : Int) => cond (veqv (.int .i64 x46_) (.int .i64 x38_)) (M.guard (decide (0 ≤ 3) && decide (3 < (((v31_ - v32_) : Nat) : Int)))
 (M.store (((Addr.mk b18_ 0 none).add (v32_ * 1)).add ((Int.toNat 3) * 1)) [(.int .u8 v39_)]
 (f101c1 X L b18_ go23_ b27_ v31_ v32_ x40_ v41_))) M.stuck) M.stuck)
def f101c3 (X : Task → M Value) (L : LoopI) (b18_ : Nat) (go23_ : (Unit) → M (((Int) × Unit) ⊕ ((Unit) ⊕ (Unit)))) (b27_ : Nat) (v31_ : Nat) (v32_ : Nat) (x35_ : Int) (v37_ : Int) (x38_ : Int) (v39_ : Int) (x40_ : Int) (v41_ : Int) : M (((Int) × Unit) ⊕ ((Unit) ⊕ (Unit))) :=
 M.load (.cell (.int .i64)) 1 ((Addr.mk b27_ 0 none).add 3) fun (x42_ : Int) => cond (veqv (.int .i64 x42_) (.int .i64 x40_)) (M.load (.cell (.int .i64)) 1 ((Addr.mk b27_ 0 none).add 2) fun (x43_ : Int) => cond (veqv (.int .i64 x43_) (.int .i64 x38_)) (M.load (.cell (.int .i64)) 1 ((Addr.mk b27_ 0 none).add 2) fun (x44_ : Int) => cond (veqv (.int .i64 x44_) (.int .i64 x35_)) (M.guard (decide (0 ≤ 2) && decide (2 < (((v31_ - v32_) : Nat) : Int)))
 (f101c2 X L b18_ go23_ b27_ v31_ v32_ v37_ x38_ v39_ x40_ v41_)) M.stuck) M.stuck) M.stuck
def f101c4 (X : Task → M Value) (L : LoopI) (b18_ : Nat) (go23_ : (Unit) → M (((Int) × Unit) ⊕ ((Unit) ⊕ (Unit)))) (b27_ : Nat) (v31_ : Nat) (v32_ : Nat) (v34_ : Int) (x35_ : Int) : M (((Int) × Unit) ⊕ ((Unit) ⊕ (Unit))) :=
 M.guard (decide (0 ≤ 8))
 (M.load (.cell (.int .i64)) 1 ((Addr.mk b27_ 0 none).add 2) fun (x38_ : Int) =>
 M.load (.cell (.int .i64)) 1 ((Addr.mk b27_ 0 none).add 3) fun (x40_ : Int) =>
 M.guard (decide (0 ≤ 0) && decide (0 < (((v31_ - v32_) : Nat) : Int)))
 (M.store (((Addr.mk b18_ 0 none).add (v32_ * 1)).add ((Int.toNat 0) * 1)) [(.int .u8 v34_)]
 (f101c3 X L b18_ go23_ b27_ v31_ v32_ x35_ (IntKind.u8.wrap (((x35_ : Int)).fdiv (2 ^ (min (Int.toNat 8) IntKind.i64.bits)))) x38_ (IntKind.u8.wrap x38_) x40_ (IntKind.u8.wrap x40_))))
def f101c5 (X : Task → M Value) (L : LoopI) (v17_ : Int) (b18_ : Nat) (s20_ : (Int) × Unit) (go23_ : (Unit) → M (((Int) × Unit) ⊕ ((Unit) ⊕ (Unit)))) (b27_ : Nat) : M (((Int) × Unit) ⊕ ((Unit) ⊕ (Unit))) :=
 let v28_ : Int := IntKind.i64.wrap (8 * s20_.1)
 let v30_ : Int := IntKind.i64.wrap ((IntKind.i64.wrap (8 * s20_.1)) + 8)
 M.guard (decide (0 ≤ v30_) && decide (v30_ ≤ (((Int.toNat v17_) : Nat) : Int)))
 (let v31_ : Nat := (Int.toNat v30_)
 M.guard (decide (0 ≤ v28_) && decide (v28_ ≤ ((v31_ : Nat) : Int)))
 (M.load (.cell (.int .i64)) 1 ((Addr.mk b27_ 0 none).add 0) fun (x33_ : Int) =>
 M.load (.cell (.int .i64)) 1 ((Addr.mk b27_ 0 none).add 2) fun (x35_ : Int) =>
 f101c4 X L b18_ go23_ b27_ v31_ (Int.toNat v28_) (IntKind.u8.wrap x33_) x35_))
def f101c6 (X : Task → M Value) (L : LoopI) (x : (Int) × ((Option Addr × Nat × Nat)) × Unit) (v17_ : Int) (b18_ : Nat) (s20_ : (Int) × Unit) (go23_ : (Unit) → M (((Int) × Unit) ⊕ ((Unit) ⊕ (Unit)))) : M (((Int) × Unit) ⊕ ((Unit) ⊕ (Unit))) :=
 M.guard (decide (0 ≤ s20_.1) && decide (s20_.1 < ((x.2.1.2.1 : Nat) : Int)))
 (M.deref x.2.1.1 fun a25_ =>
 M.load (.agg [(.int .i64), .bool, (.int .i64), (.int .i64)]) 4 (a25_.add ((Int.toNat s20_.1) * 4)) fun (x26_ : Int × Bool × Int × Int × Unit) =>
 M.new (.cells (Row.ofList [(.int .i64 0), (.bool false), (.int .i64 0), (.int .i64 0)]) 58 false (0, 0) false) fun b27_ =>
 M.store (Addr.mk b27_ 0 none) [(.int .i64 x26_.1), (.bool x26_.2.1), (.int .i64 x26_.2.2.1), (.int .i64 x26_.2.2.2.1)]
 (f101c5 X L v17_ b18_ s20_ go23_ b27_))
def f101c7 (X : Task → M Value) (L : LoopI) (x : (Int) × ((Option Addr × Nat × Nat)) × Unit) (v17_ : Int) : M (Value) :=
 M.guard (decide (0 ≤ v17_) && decide (v17_ ≤ v17_) && decide ((1 : Int) * v17_ ≤ 2 ^ 48))
 (M.new (.cells (Row.rep [(.int .u8 0)] (Int.toNat v17_)) 5 false (0, 0) false) fun b18_ =>
 M.bind (L (σ := (Int) × Unit) (ρ := (Unit) ⊕ (Unit)) (fun s20_ =>
 M.ite (decide (s20_.1 < ((x.2.1.2.1 : Nat) : Int)))
 (M.join (fun (j22_ : Unit) =>
 M.pure (.inl ((IntKind.i64.wrap (s20_.1 + 1)), ()))) fun go23_ =>
 f101c6 X L x v17_ b18_ s20_ go23_)
 (M.pure (.inr (.inl (()))))) (0, ())) <| M.sum (fun (j49_ : Unit) =>
 M.pure (.tuple ⟨[(.slice (some (Addr.mk b18_ 0 none)) (Int.toNat v17_) (Int.toNat v17_)), (.int .i64 0)]⟩)) (fun _ => M.stuck))
def f101c8 (X : Task → M Value) (L : LoopI) (x : (Int) × ((Option Addr × Nat × Nat)) × Unit) (v2_ : Int) : M (Value) :=
 M.bind (L (σ := (Int) × Unit) (ρ := (Unit) ⊕ ((((Option Addr × Nat × Nat)) × (Int) × Unit) ⊕ (Unit))) (fun s3_ =>
 M.ite (decide (s3_.1 < v2_))
 (M.guard (decide (0 ≤ s3_.1) && decide (s3_.1 < ((x.2.1.2.1 : Nat) : Int)))
 (M.deref x.2.1.1 fun a5_ =>
 M.load (.agg [(.int .i64), .bool, (.int .i64), (.int .i64)]) 4 (a5_.add ((Int.toNat s3_.1) * 4)) fun (x6_ : Int × Bool × Int × Int × Unit) =>
 M.new (.cells (Row.ofList [(.int .i64 0), (.bool false), (.int .i64 0), (.int .i64 0)]) 58 false (0, 0) false) fun b7_ =>
 f101c0 X L s3_ x6_ b7_))
 (M.pure (.inr (.inl (()))))) (0, ())) <| M.sum (fun (j12_ : Unit) =>
 M.callS (.one (.cell (.int .i64))) (X (.call 58 [(.int .i64 x.1)])) fun (r14_ : Int) =>
 M.ite (decide (((x.2.1.2.1 : Nat) : Int) > r14_))
 (M.pure (.tuple ⟨[(.slice none 0 0), (.int .i64 3)]⟩))
 (M.callS (.one (.cell (.int .i64))) (X (.call 67 [(.int .i64 x.1)])) fun (r16_ : Int) =>
 f101c7 X L x (IntKind.i64.wrap (r16_ * 112)))) (M.sum (fun (j50_ : ((Option Addr × Nat × Nat)) × (Int) × Unit) =>
 M.pure (.tuple ⟨[(.slice j50_.1.1 j50_.1.2.1 j50_.1.2.2), (.int .i64 j50_.2.1)]⟩)) (fun _ => M.stuck))
def f101 (X : Task → M Value) (L : LoopI) (x : (Int) × ((Option Addr × Nat × Nat)) × Unit) : M Value :=
 M.callS (.one (.cell .bool)) (X (.call 100 [(.int .i64 x.1)])) fun (r0_ : Bool) =>
 M.ite (!r0_)
 (M.pure (.tuple ⟨[(.slice none 0 0), (.int .i64 1)]⟩))
 (f101c8 X L x ((x.2.1.2.1 : Nat) : Int))

theorem e101 (X : Task → M Value) (L : LoopI) (x : (Int) × ((Option Addr × Nat × Nat)) × Unit) : evBody CC { call := X, loop := L } 101 (shsInj [(.cell (.int .i64)), (.cell .slice)] x) = f101 X L x := by kernel_rfl

/-- (*hayrick/stripe.Stripes).Write -/
def f102c0 (X : Task → M Value) (L : LoopI) (x : (Option Addr) × (Int) × (Int) × ((Option Addr × Nat × Nat)) × Unit) (s23_ : (Int) × Unit) (go26_ : (Unit) → M (((Int) × Unit) ⊕ ((Unit) ⊕ (((Int) × Unit) ⊕ (Unit))))) (a28_ : Addr) : M (((Int) × Unit) ⊕ ((Unit) ⊕ (((Int) × Unit) ⊕ (Unit)))) :=
 M.load (.cell .slice) 1 (a28_.add ((Int.toNat s23_.1) * 1)) fun (x29_ : (Option Addr × Nat × Nat)) =>
 M.deref x.1 fun a30_ =>
 M.load (.cell .ptr) 1 (a30_.add 0) fun (x31_ : Option Addr) =>
 M.callS (.one (.cell .bool)) (X (.call 124 [(.pointer x31_), (.int .i64 s23_.1)])) fun (r32_ : Bool) =>
 M.ite (!r32_)
 (go26_ (()))
 (M.callS (.one (.cell (.int .i64))) (X (.call 125 [(.pointer x.1), (.int .i64 s23_.1), (.int .i64 x.2.1), (.int .u64 x.2.2.1), (.slice x29_.1 x29_.2.1 x29_.2.2)])) fun (r34_ : Int) =>
 M.ite (!(r34_ == 0))
 (M.pure (.inr (.inr (.inl (r34_, ())))))
 (go26_ (())))
def f102c1 (X : Task → M Value) (L : LoopI) (x : (Option Addr) × (Int) × (Int) × ((Option Addr × Nat × Nat)) × Unit) (r20_ : ((Option Addr × Nat × Nat)) × (Int) × Unit) (v22_ : Int) : M (Value) :=
 M.bind (L (σ := (Int) × Unit) (ρ := (Unit) ⊕ (((Int) × Unit) ⊕ (Unit))) (fun s23_ =>
 M.ite (decide (s23_.1 < v22_))
 (M.join (fun (j25_ : Unit) =>
 M.pure (.inl ((IntKind.i64.wrap (s23_.1 + 1)), ()))) fun go26_ =>
 M.guard (decide (0 ≤ s23_.1) && decide (s23_.1 < ((r20_.1.2.1 : Nat) : Int)))
 (M.deref r20_.1.1 fun a28_ =>
 f102c0 X L x s23_ go26_ a28_))
 (M.pure (.inr (.inl (()))))) (0, ())) <| M.sum (fun (j36_ : Unit) =>
 M.pure (.int .i64 0)) (M.sum (fun (j37_ : (Int) × Unit) =>
 M.pure (.int .i64 j37_.1)) (fun _ => M.stuck))
def f102c2 (X : Task → M Value) (L : LoopI) (x : (Option Addr) × (Int) × (Int) × ((Option Addr × Nat × Nat)) × Unit) (a13_ : Addr) (x14_ : Int) (a15_ : Addr) (x16_ : Int) (r17_ : (Option Addr × Nat × Nat)) : M (Value) :=
 M.load (.cell (.int .i64)) 1 ((a15_.add 1).add 1) fun (x18_ : Int) => cond (veqv (.int .i64 x18_) (.int .i64 x16_)) (M.load (.cell (.int .i64)) 1 ((a13_.add 1).add 0) fun (x19_ : Int) => cond (veqv (.int .i64 x19_) (.int .i64 x14_)) (M.callS (.tuple [(.cell .slice), (.cell (.int .i64))]) (X (.call 122 [(.int .i64 x14_), (.int .i64 x16_), (.slice r17_.1 r17_.2.1 r17_.2.2)])) fun (r20_ : ((Option Addr × Nat × Nat)) × (Int) × Unit) =>
 M.ite (!(r20_.2.1 == 0))
 (M.pure (.int .i64 r20_.2.1))
 (f102c1 X L x r20_ ((r20_.1.2.1 : Nat) : Int))) M.stuck) M.stuck
def f102c3 (X : Task → M Value) (L : LoopI) (x : (Option Addr) × (Int) × (Int) × ((Option Addr × Nat × Nat)) × Unit) (a8_ : Addr) (x9_ : Int) (r10_ : Int) : M (Value) :=
 M.load (.cell (.int .i64)) 1 ((a8_.add 1).add 0) fun (x11_ : Int) => cond (veqv (.int .i64 x11_) (.int .i64 x9_)) (M.ite (decide (r10_ < x9_))
 (M.pure (.int .i64 20))
 (M.deref x.1 fun a13_ =>
 M.load (.cell (.int .i64)) 1 ((a13_.add 1).add 0) fun (x14_ : Int) =>
 M.deref x.1 fun a15_ =>
 M.load (.cell (.int .i64)) 1 ((a15_.add 1).add 1) fun (x16_ : Int) =>
 M.callS (.one (.cell .slice)) (X (.call 123 [(.slice x.2.2.2.1.1 x.2.2.2.1.2.1 x.2.2.2.1.2.2)])) fun (r17_ : (Option Addr × Nat × Nat)) =>
 f102c2 X L x a13_ x14_ a15_ x16_ r17_)) M.stuck
def f102c4 (X : Task → M Value) (L : LoopI) (x : (Option Addr) × (Int) × (Int) × ((Option Addr × Nat × Nat)) × Unit) (v0_ : Int) (r1_ : Int × Int × Int × Unit) : M (Value) :=
 M.callS (.one (.cell (.int .i64))) (X (.call 120 [(.pointer x.1), (.int .i64 0), (.int .i64 x.2.1), (.int .u64 x.2.2.1), (.bool (v0_ == (IntKind.i64.wrap (r1_.1 * 448))))])) fun (r4_ : Int) =>
 M.ite (!(r4_ == 0))
 (M.pure (.int .i64 r4_))
 (M.deref x.1 fun a6_ =>
 M.load (.cell .ptr) 1 (a6_.add 0) fun (x7_ : Option Addr) =>
 M.deref x.1 fun a8_ =>
 M.load (.cell (.int .i64)) 1 ((a8_.add 1).add 0) fun (x9_ : Int) =>
 M.callS (.one (.cell (.int .i64))) (X (.call 121 [(.pointer x7_)])) fun (r10_ : Int) =>
 f102c3 X L x a8_ x9_ r10_)
def f102 (X : Task → M Value) (L : LoopI) (x : (Option Addr) × (Int) × (Int) × ((Option Addr × Nat × Nat)) × Unit) : M Value :=
 M.callS (.one (.agg [(.int .i64), (.int .i64), (.int .i64)])) (X (.call 74 [(.pointer x.1)])) fun (r1_ : Int × Int × Int × Unit) =>
 f102c4 X L x ((x.2.2.2.1.2.1 : Nat) : Int) r1_

theorem e102 (X : Task → M Value) (L : LoopI) (x : (Option Addr) × (Int) × (Int) × ((Option Addr × Nat × Nat)) × Unit) : evBody CC { call := X, loop := L } 102 (shsInj [(.cell .ptr), (.cell (.int .i64)), (.cell (.int .u64)), (.cell .slice)] x) = f102 X L x := by kernel_rfl

/-- math/bits.Mul -/
def f103 (X : Task → M Value) (L : LoopI) (x : (Int) × (Int) × Unit) : M Value :=
 M.callS (.tuple [(.cell (.int .u64)), (.cell (.int .u64))]) (X (.call 127 [(.int .u64 x.1), (.int .u64 x.2.1)])) fun (r0_ : (Int) × (Int) × Unit) =>
 M.pure (.tuple ⟨[(.int .u64 r0_.1), (.int .u64 r0_.2.1)]⟩)

theorem e103 (X : Task → M Value) (L : LoopI) (x : (Int) × (Int) × Unit) : evBody CC { call := X, loop := L } 103 (shsInj [(.cell (.int .u64)), (.cell (.int .u64))] x) = f103 X L x := by kernel_rfl

/-- (*hayrick/array.Array).burns -/
def f105c0 (X : Task → M Value) (L : LoopI) (x : (Option Addr) × Unit) (a0_ : Addr) : M (Value) :=
 M.load (.cell (.int .i64)) 1 (a0_.add 3) fun (x1_ : Int) =>
 M.ite (x1_ == 0)
 (M.pure (.bool false))
 (M.deref x.1 fun a3_ =>
 M.load (.cell (.int .i64)) 1 (a3_.add 3) fun (x4_ : Int) =>
 M.deref x.1 fun a6_ =>
 M.store (a6_.add 3) [(.int .i64 (IntKind.i64.wrap (x4_ - 1)))]
 (M.deref x.1 fun a7_ =>
 M.load (.cell (.int .i64)) 1 (a7_.add 3) fun (x8_ : Int) =>
 M.deref x.1 fun a10_ =>
 M.store (a10_.add 4) [(.bool (x8_ == 0))]
 (M.deref x.1 fun a11_ =>
 M.load (.cell .bool) 1 (a11_.add 4) fun (x12_ : Bool) =>
 M.pure (.bool x12_))))
def f105 (X : Task → M Value) (L : LoopI) (x : (Option Addr) × Unit) : M Value :=
 M.deref x.1 fun a0_ =>
 f105c0 X L x a0_

theorem e105 (X : Task → M Value) (L : LoopI) (x : (Option Addr) × Unit) : evBody CC { call := X, loop := L } 105 (shsInj [(.cell .ptr)] x) = f105 X L x := by kernel_rfl

/-- (*hayrick/stripe.Stripes).Read -/
def f107c0 (X : Task → M Value) (L : LoopI) (r24_ : ((Option Addr × Nat × Nat)) × (Int) × Unit) (v26_ : Int) : M (Value) :=
 M.bind (L (σ := ((Option Addr × Nat × Nat)) × (Int) × Unit) (ρ := (((Option Addr × Nat × Nat)) × Unit) ⊕ (Unit)) (fun s27_ =>
 M.ite (decide (s27_.2.1 < v26_))
 (M.guard (decide (0 ≤ s27_.2.1) && decide (s27_.2.1 < ((r24_.1.2.1 : Nat) : Int)))
 (M.deref r24_.1.1 fun a29_ =>
 M.load (.cell .slice) 1 (a29_.add ((Int.toNat s27_.2.1) * 1)) fun (x30_ : (Option Addr × Nat × Nat)) =>
 M.append 5 1 1 s27_.1.1 s27_.1.2.1 s27_.1.2.2 (.slice x30_.1 x30_.2.1 x30_.2.2) fun a31_ n32_ c33_ =>
 M.pure (.inl ((a31_, n32_, c33_), (IntKind.i64.wrap (s27_.2.1 + 1)), ()))))
 (M.pure (.inr (.inl (s27_.1, ()))))) ((none, 0, 0), 0, ())) <| M.sum (fun (j35_ : ((Option Addr × Nat × Nat)) × Unit) =>
 M.pure (.tuple ⟨[(.slice j35_.1.1 j35_.1.2.1 j35_.1.2.2), (.int .i64 0)]⟩)) (fun _ => M.stuck)
def f107c1 (X : Task → M Value) (L : LoopI) (b6_ : Nat) (b7_ : Nat) (x18_ : Int) (x21_ : Int) : M (Value) :=
 M.load (.cell .slice) 1 (Addr.mk b6_ 0 none) fun (x22_ : (Option Addr × Nat × Nat)) =>
 M.load (.cell .slice) 1 (Addr.mk b7_ 0 none) fun (x23_ : (Option Addr × Nat × Nat)) =>
 M.callS (.tuple [(.cell .slice), (.cell (.int .i64))]) (X (.call 131 [(.int .i64 x18_), (.int .i64 x21_), (.slice x22_.1 x22_.2.1 x22_.2.2), (.slice x23_.1 x23_.2.1 x23_.2.2)])) fun (r24_ : ((Option Addr × Nat × Nat)) × (Int) × Unit) =>
 M.ite (!(r24_.2.1 == 0))
 (M.pure (.tuple ⟨[(.slice none 0 0), (.int .i64 r24_.2.1)]⟩))
 (f107c0 X L r24_ ((r24_.1.2.1 : Nat) : Int))
def f107c2 (X : Task → M Value) (L : LoopI) (b0_ : Nat) (b6_ : Nat) (b7_ : Nat) (v11_ : Int) (a13_ : Addr) : M (Value) :=
 M.load (.cell (.int .i64)) 1 ((a13_.add 1).add 0) fun (x14_ : Int) =>
 M.ite (decide (v11_ < x14_))
 (M.pure (.tuple ⟨[(.slice none 0 0), (.int .i64 20)]⟩))
 (M.load (.cell .ptr) 1 (Addr.mk b0_ 0 none) fun (x16_ : Option Addr) =>
 M.deref x16_ fun a17_ =>
 M.load (.cell (.int .i64)) 1 ((a17_.add 1).add 0) fun (x18_ : Int) =>
 M.load (.cell .ptr) 1 (Addr.mk b0_ 0 none) fun (x19_ : Option Addr) =>
 M.deref x19_ fun a20_ =>
 M.load (.cell (.int .i64)) 1 ((a20_.add 1).add 1) fun (x21_ : Int) =>
 f107c1 X L b6_ b7_ x18_ x21_)
def f107c3 (X : Task → M Value) (L : LoopI) (x : (Option Addr) × (Int) × (Int) × Unit) (b0_ : Nat) (b1_ : Nat) (b6_ : Nat) (b7_ : Nat) (x8_ : Option Addr) : M (Value) :=
 M.callS (.tuple []) (X (.call 128 [(.pointer x8_), (.int .i64 x.2.1), (.func (.func 129) ⟨[]⟩ ⟨[(.pointer (some (Addr.mk b1_ 0 none))), (.pointer (some (Addr.mk b6_ 0 none))), (.pointer (some (Addr.mk b0_ 0 none))), (.pointer (some (Addr.mk b7_ 0 none)))]⟩)])) fun (r9_ : Unit) =>
 M.load (.cell .slice) 1 (Addr.mk b6_ 0 none) fun (x10_ : (Option Addr × Nat × Nat)) =>
 M.load (.cell .ptr) 1 (Addr.mk b0_ 0 none) fun (x12_ : Option Addr) =>
 M.deref x12_ fun a13_ =>
 f107c2 X L b0_ b6_ b7_ ((x10_.2.1 : Nat) : Int) a13_
def f107c4 (X : Task → M Value) (L : LoopI) (x : (Option Addr) × (Int) × (Int) × Unit) (b0_ : Nat) (b1_ : Nat) (x2_ : Option Addr) : M (Value) :=
 M.load (.cell (.int .u64)) 1 (Addr.mk b1_ 0 none) fun (x3_ : Int) =>
 M.callS (.one (.cell (.int .i64))) (X (.call 120 [(.pointer x2_), (.int .i64 0), (.int .i64 x.2.1), (.int .u64 x3_), (.bool true)])) fun (r4_ : Int) =>
 M.ite (!(r4_ == 0))
 (M.pure (.tuple ⟨[(.slice none 0 0), (.int .i64 r4_)]⟩))
 (M.new (.cells (Row.ofList [(.slice none 0 0)]) 68 false (0, 0) false) fun b6_ =>
 M.new (.cells (Row.ofList [(.slice none 0 0)]) 111 false (0, 0) false) fun b7_ =>
 M.load (.cell .ptr) 1 (Addr.mk b0_ 0 none) fun (x8_ : Option Addr) =>
 f107c3 X L x b0_ b1_ b6_ b7_ x8_)
def f107 (X : Task → M Value) (L : LoopI) (x : (Option Addr) × (Int) × (Int) × Unit) : M Value :=
 M.new (.cells (Row.ofList [(.pointer x.1)]) 24 false (0, 0) false) fun b0_ =>
 M.new (.cells (Row.ofList [(.int .u64 x.2.2.1)]) 75 false (0, 0) false) fun b1_ =>
 M.load (.cell .ptr) 1 (Addr.mk b0_ 0 none) fun (x2_ : Option Addr) =>
 f107c4 X L x b0_ b1_ x2_

theorem e107 (X : Task → M Value) (L : LoopI) (x : (Option Addr) × (Int) × (Int) × Unit) : evBody CC { call := X, loop := L } 107 (shsInj [(.cell .ptr), (.cell (.int .i64)), (.cell (.int .u64))] x) = f107 X L x := by kernel_rfl

/-- slices.Clone[[]int,int] -/
def f109 (X : Task → M Value) (L : LoopI) (x : ((Option Addr × Nat × Nat)) × Unit) : M Value :=
 M.ite x.1.1.isNone
 (M.pure (.slice none 0 0))
 (M.new (.cells (Row.ofList []) 3 false (0, 0) false) fun b0_ =>
 M.append 3 1 8 (some (Addr.mk b0_ 0 none)) 0 0 (.slice x.1.1 x.1.2.1 x.1.2.2) fun a1_ n2_ c3_ =>
 M.pure (.slice a1_ n2_ c3_))

theorem e109 (X : Task → M Value) (L : LoopI) (x : ((Option Addr × Nat × Nat)) × Unit) : evBody CC { call := X, loop := L } 109 (shsInj [(.cell .slice)] x) = f109 X L x := by kernel_rfl

/-- slices.Sort[[]int,int] -/
def f110 (X : Task → M Value) (L : LoopI) (x : ((Option Addr × Nat × Nat)) × Unit) : M Value :=
 let v0_ : Int := ((x.1.2.1 : Nat) : Int)
 M.callS (.one (.cell (.int .i64))) (X (.call 133 [(.int .u64 (IntKind.u64.wrap v0_))])) fun (r2_ : Int) =>
 M.callS (.tuple []) (X (.call 132 [(.slice x.1.1 x.1.2.1 x.1.2.2), (.int .i64 0), (.int .i64 v0_), (.int .i64 r2_)])) fun (r3_ : Unit) =>
 M.pure (.tuple ⟨[]⟩)

theorem e110 (X : Task → M Value) (L : LoopI) (x : ((Option Addr × Nat × Nat)) × Unit) : evBody CC { call := X, loop := L } 110 (shsInj [(.cell .slice)] x) = f110 X L x := by kernel_rfl

/-- hayrick/points.Spread -/
def f111c0 (X : Task → M Value) (L : LoopI) (b1_ : Nat) : M (Value) :=
 M.load (.agg [(.int .i64), (.int .i64), (.int .i64), (.int .i64), (.int .u32), (.int .u32), (.int .u32), (.int .u32), (.int .u32), (.int .u32), (.int .u32)]) 11 (Addr.mk b1_ 0 none) fun (x4_ : Int × Int × Int × Int × Int × Int × Int × Int × Int × Int × Int × Unit) =>
 M.pure (.tuple ⟨[(.agg ⟨[(.int .i64 x4_.1), (.int .i64 x4_.2.1), (.int .i64 x4_.2.2.1), (.int .i64 x4_.2.2.2.1), (.int .u32 x4_.2.2.2.2.1), (.int .u32 x4_.2.2.2.2.2.1), (.int .u32 x4_.2.2.2.2.2.2.1), (.int .u32 x4_.2.2.2.2.2.2.2.1), (.int .u32 x4_.2.2.2.2.2.2.2.2.1), (.int .u32 x4_.2.2.2.2.2.2.2.2.2.1), (.int .u32 x4_.2.2.2.2.2.2.2.2.2.2.1)]⟩), (.slice none 0 0), (.int .i64 1)]⟩)
def f111c1 (X : Task → M Value) (L : LoopI) (b1_ : Nat) (r8_ : (Option Addr × Nat × Nat)) : M (Value) :=
 M.load (.agg [(.int .i64), (.int .i64), (.int .i64), (.int .i64), (.int .u32), (.int .u32), (.int .u32), (.int .u32), (.int .u32), (.int .u32), (.int .u32)]) 11 (Addr.mk b1_ 0 none) fun (x10_ : Int × Int × Int × Int × Int × Int × Int × Int × Int × Int × Int × Unit) =>
 M.pure (.tuple ⟨[(.agg ⟨[(.int .i64 x10_.1), (.int .i64 x10_.2.1), (.int .i64 x10_.2.2.1), (.int .i64 x10_.2.2.2.1), (.int .u32 x10_.2.2.2.2.1), (.int .u32 x10_.2.2.2.2.2.1), (.int .u32 x10_.2.2.2.2.2.2.1), (.int .u32 x10_.2.2.2.2.2.2.2.1), (.int .u32 x10_.2.2.2.2.2.2.2.2.1), (.int .u32 x10_.2.2.2.2.2.2.2.2.2.1), (.int .u32 x10_.2.2.2.2.2.2.2.2.2.2.1)]⟩), (.slice r8_.1 r8_.2.1 r8_.2.2), (.int .i64 0)]⟩)
def f111c2 (X : Task → M Value) (L : LoopI) (b0_ : Nat) (b1_ : Nat) (x6_ : Int × Int × Int × Int × Int × Int × Int × Int × Int × Int × Int × Unit) (r8_ : (Option Addr × Nat × Nat)) : M (Value) :=
 M.load (.agg [(.int .i64), (.int .i64), (.int .i64), (.int .i64), (.int .u32), (.int .u32), (.int .u32), (.int .u32), (.int .u32), (.int .u32), (.int .u32)]) 11 (Addr.mk b0_ 0 none) fun (x9_ : Int × Int × Int × Int × Int × Int × Int × Int × Int × Int × Int × Unit) => cond (veqv (.agg ⟨[(.int .i64 x9_.1), (.int .i64 x9_.2.1), (.int .i64 x9_.2.2.1), (.int .i64 x9_.2.2.2.1), (.int .u32 x9_.2.2.2.2.1), (.int .u32 x9_.2.2.2.2.2.1), (.int .u32 x9_.2.2.2.2.2.2.1), (.int .u32 x9_.2.2.2.2.2.2.2.1), (.int .u32 x9_.2.2.2.2.2.2.2.2.1), (.int .u32 x9_.2.2.2.2.2.2.2.2.2.1), (.int .u32 x9_.2.2.2.2.2.2.2.2.2.2.1)]⟩) (.agg ⟨[(.int .i64 x6_.1), (.int .i64 x6_.2.1), (.int .i64 x6_.2.2.1), (.int .i64 x6_.2.2.2.1), (.int .u32 x6_.2.2.2.2.1), (.int .u32 x6_.2.2.2.2.2.1), (.int .u32 x6_.2.2.2.2.2.2.1), (.int .u32 x6_.2.2.2.2.2.2.2.1), (.int .u32 x6_.2.2.2.2.2.2.2.2.1), (.int .u32 x6_.2.2.2.2.2.2.2.2.2.1), (.int .u32 x6_.2.2.2.2.2.2.2.2.2.2.1)]⟩)) (M.store (Addr.mk b1_ 0 none) [(.int .i64 x6_.1), (.int .i64 x6_.2.1), (.int .i64 x6_.2.2.1), (.int .i64 x6_.2.2.2.1), (.int .u32 x6_.2.2.2.2.1), (.int .u32 x6_.2.2.2.2.2.1), (.int .u32 x6_.2.2.2.2.2.2.1), (.int .u32 x6_.2.2.2.2.2.2.2.1), (.int .u32 x6_.2.2.2.2.2.2.2.2.1), (.int .u32 x6_.2.2.2.2.2.2.2.2.2.1), (.int .u32 x6_.2.2.2.2.2.2.2.2.2.2.1)]
 (f111c1 X L b1_ r8_)) M.stuck
def f111c3 (X : Task → M Value) (L : LoopI) (x : (Int × Int × Int × Int × Int × Int × Int × Int × Int × Int × Int × Unit) × ((Option Addr × Nat × Nat)) × Unit) (b0_ : Nat) (b1_ : Nat) (m5_ : Nat) : M (Value) :=
 M.load (.agg [(.int .i64), (.int .i64), (.int .i64), (.int .i64), (.int .u32), (.int .u32), (.int .u32), (.int .u32), (.int .u32), (.int .u32), (.int .u32)]) 11 (Addr.mk b0_ 0 none) fun (x6_ : Int × Int × Int × Int × Int × Int × Int × Int × Int × Int × Int × Unit) =>
 M.guard (decide (0 ≤ ((m5_ : Nat) : Int)) && decide (((m5_ : Nat) : Int) ≤ ((x.2.1.2.1 : Nat) : Int)))
 (let v7_ : Nat := (Int.toNat ((m5_ : Nat) : Int))
 M.callS (.one (.cell .slice)) (X (.call 134 [(.slice (x.2.1.1.map (·.add (v7_ * 1))) (x.2.1.2.1 - v7_) (x.2.1.2.2 - v7_))])) fun (r8_ : (Option Addr × Nat × Nat)) =>
 f111c2 X L b0_ b1_ x6_ r8_)
def f111c4 (X : Task → M Value) (L : LoopI) (x : (Int × Int × Int × Int × Int × Int × Int × Int × Int × Int × Int × Unit) × ((Option Addr × Nat × Nat)) × Unit) (b0_ : Nat) (go3_ : ((Bool) × Unit) → M (Value)) (x11_ : Int × Int × Int × Int × Int × Int × Int × Int × Int × Int × Int × Unit) : M (Value) :=
 M.callS (.one (.cell .bool)) (X (.call 46 [(.agg ⟨[(.int .i64 x11_.1), (.int .i64 x11_.2.1), (.int .i64 x11_.2.2.1), (.int .i64 x11_.2.2.2.1), (.int .u32 x11_.2.2.2.2.1), (.int .u32 x11_.2.2.2.2.2.1), (.int .u32 x11_.2.2.2.2.2.2.1), (.int .u32 x11_.2.2.2.2.2.2.2.1), (.int .u32 x11_.2.2.2.2.2.2.2.2.1), (.int .u32 x11_.2.2.2.2.2.2.2.2.2.1), (.int .u32 x11_.2.2.2.2.2.2.2.2.2.2.1)]⟩)])) fun (r12_ : Bool) =>
 M.ite (!r12_)
 (go3_ (true, ()))
 (M.load (.cell (.int .i64)) 1 ((Addr.mk b0_ 0 none).add 2) fun (x15_ : Int) =>
 M.callS (.one (.cell (.int .i64))) (X (.call 78 [(.int .i64 x15_)])) fun (r16_ : Int) =>
 go3_ ((!(((x.2.1.2.1 : Nat) : Int) == r16_)), ()))
def f111c5 (X : Task → M Value) (L : LoopI) (x : (Int × Int × Int × Int × Int × Int × Int × Int × Int × Int × Int × Unit) × ((Option Addr × Nat × Nat)) × Unit) (b0_ : Nat) (b1_ : Nat) : M (Value) :=
 M.join (fun (j2_ : (Bool) × Unit) =>
 M.ite j2_.1
 (M.store (Addr.mk b1_ 0 none) [(.int .i64 0), (.int .i64 0), (.int .i64 0), (.int .i64 0), (.int .u32 0), (.int .u32 0), (.int .u32 0), (.int .u32 0), (.int .u32 0), (.int .u32 0), (.int .u32 0)]
 (f111c0 X L b1_))
 (M.copy 1 (some (((Addr.mk b0_ 0 none).add 4).add (0 * 1))) (6 - 0) (.slice x.2.1.1 x.2.1.2.1 x.2.1.2.2) fun m5_ =>
 f111c3 X L x b0_ b1_ m5_)) fun go3_ =>
 M.load (.agg [(.int .i64), (.int .i64), (.int .i64), (.int .i64), (.int .u32), (.int .u32), (.int .u32), (.int .u32), (.int .u32), (.int .u32), (.int .u32)]) 11 (Addr.mk b0_ 0 none) fun (x11_ : Int × Int × Int × Int × Int × Int × Int × Int × Int × Int × Int × Unit) =>
 f111c4 X L x b0_ go3_ x11_
def f111c6 (X : Task → M Value) (L : LoopI) (x : (Int × Int × Int × Int × Int × Int × Int × Int × Int × Int × Int × Unit) × ((Option Addr × Nat × Nat)) × Unit) : M (Value) :=
 M.new (.cells (Row.ofList [(.int .i64 x.1.1), (.int .i64 x.1.2.1), (.int .i64 x.1.2.2.1), (.int .i64 x.1.2.2.2.1), (.int .u32 x.1.2.2.2.2.1), (.int .u32 x.1.2.2.2.2.2.1), (.int .u32 x.1.2.2.2.2.2.2.1), (.int .u32 x.1.2.2.2.2.2.2.2.1), (.int .u32 x.1.2.2.2.2.2.2.2.2.1), (.int .u32 x.1.2.2.2.2.2.2.2.2.2.1), (.int .u32 x.1.2.2.2.2.2.2.2.2.2.2.1)]) 34 false (0, 0) false) fun b0_ =>
 M.new (.cells (Row.ofList [(.int .i64 0), (.int .i64 0), (.int .i64 0), (.int .i64 0), (.int .u32 0), (.int .u32 0), (.int .u32 0), (.int .u32 0), (.int .u32 0), (.int .u32 0), (.int .u32 0)]) 34 false (0, 0) false) fun b1_ =>
 M.store ((Addr.mk b0_ 0 none).add 4) [(.int .u32 0), (.int .u32 0), (.int .u32 0), (.int .u32 0), (.int .u32 0), (.int .u32 0)]
 (M.store ((Addr.mk b0_ 0 none).add 10) [(.int .u32 0)]
 (f111c5 X L x b0_ b1_))
def f111 (X : Task → M Value) (L : LoopI) (x : (Int × Int × Int × Int × Int × Int × Int × Int × Int × Int × Int × Unit) × ((Option Addr × Nat × Nat)) × Unit) : M Value :=
 f111c6 X L x

theorem e111 (X : Task → M Value) (L : LoopI) (x : (Int × Int × Int × Int × Int × Int × Int × Int × Int × Int × Int × Unit) × ((Option Addr × Nat × Nat)) × Unit) : evBody CC { call := X, loop := L } 111 (shsInj [(.agg [(.int .i64), (.int .i64), (.int .i64), (.int .i64), (.int .u32), (.int .u32), (.int .u32), (.int .u32), (.int .u32), (.int .u32), (.int .u32)]), (.cell .slice)] x) = f111 X L x := by kernel_rfl

/-- hayrick/inode.numbers -/
def f112c0 (X : Task → M Value) (L : LoopI) (b10_ : Nat) (x11_ : Int × Int × Int × Int × Int × Int × Unit) (s12_ : (Int) × Unit) : M (((Int) × Unit) ⊕ ((Unit) ⊕ (Unit))) :=
 M.guard (decide (0 ≤ s12_.1) && decide (s12_.1 < ((6 : Nat) : Int)))
 (M.need ((([(.int .u32 x11_.1), (.int .u32 x11_.2.1), (.int .u32 x11_.2.2.1), (.int .u32 x11_.2.2.2.1), (.int .u32 x11_.2.2.2.2.1), (.int .u32 x11_.2.2.2.2.2.1)])[((Int.toNat s12_.1) * 1)]?).bind ((.cell (.int .u32)) : Sh).prj) fun (x15_ : Int) =>
 let v16_ : Int := IntKind.i64.wrap (4 + s12_.1)
 M.guard (decide (0 ≤ v16_) && decide (v16_ < ((11 : Nat) : Int)))
 (M.store ((Addr.mk b10_ 0 none).add ((Int.toNat v16_) * 2)) [(.int .u32 x15_), (.int .i64 4)]
 (M.pure (.inl ((IntKind.i64.wrap (s12_.1 + 1)), ())))))
def f112c1 (X : Task → M Value) (L : LoopI) (b1_ : Nat) : M (Value) :=
 M.load (.agg [(.int .u32), (.int .i64), (.int .u32), (.int .i64), (.int .u32), (.int .i64), (.int .u32), (.int .i64), (.int .u32), (.int .i64), (.int .u32), (.int .i64), (.int .u32), (.int .i64), (.int .u32), (.int .i64), (.int .u32), (.int .i64), (.int .u32), (.int .i64), (.int .u32), (.int .i64)]) 22 (Addr.mk b1_ 0 none) fun (x21_ : Int × Int × Int × Int × Int × Int × Int × Int × Int × Int × Int × Int × Int × Int × Int × Int × Int × Int × Int × Int × Int × Int × Unit) =>
 M.pure (.agg ⟨[(.int .u32 x21_.1), (.int .i64 x21_.2.1), (.int .u32 x21_.2.2.1), (.int .i64 x21_.2.2.2.1), (.int .u32 x21_.2.2.2.2.1), (.int .i64 x21_.2.2.2.2.2.1), (.int .u32 x21_.2.2.2.2.2.2.1), (.int .i64 x21_.2.2.2.2.2.2.2.1), (.int .u32 x21_.2.2.2.2.2.2.2.2.1), (.int .i64 x21_.2.2.2.2.2.2.2.2.2.1), (.int .u32 x21_.2.2.2.2.2.2.2.2.2.2.1), (.int .i64 x21_.2.2.2.2.2.2.2.2.2.2.2.1), (.int .u32 x21_.2.2.2.2.2.2.2.2.2.2.2.2.1), (.int .i64 x21_.2.2.2.2.2.2.2.2.2.2.2.2.2.1), (.int .u32 x21_.2.2.2.2.2.2.2.2.2.2.2.2.2.2.1), (.int .i64 x21_.2.2.2.2.2.2.2.2.2.2.2.2.2.2.2.1), (.int .u32 x21_.2.2.2.2.2.2.2.2.2.2.2.2.2.2.2.2.1), (.int .i64 x21_.2.2.2.2.2.2.2.2.2.2.2.2.2.2.2.2.2.1), (.int .u32 x21_.2.2.2.2.2.2.2.2.2.2.2.2.2.2.2.2.2.2.1), (.int .i64 x21_.2.2.2.2.2.2.2.2.2.2.2.2.2.2.2.2.2.2.2.1), (.int .u32 x21_.2.2.2.2.2.2.2.2.2.2.2.2.2.2.2.2.2.2.2.2.1), (.int .i64 x21_.2.2.2.2.2.2.2.2.2.2.2.2.2.2.2.2.2.2.2.2.2.1)]⟩)
def f112c2 (X : Task → M Value) (L : LoopI) (b1_ : Nat) (x20_ : Int × Int × Int × Int × Int × Int × Int × Int × Int × Int × Int × Int × Int × Int × Int × Int × Int × Int × Int × Int × Int × Int × Unit) : M (Value) :=
 M.store (Addr.mk b1_ 0 none) [(.int .u32 x20_.1), (.int .i64 x20_.2.1), (.int .u32 x20_.2.2.1), (.int .i64 x20_.2.2.2.1), (.int .u32 x20_.2.2.2.2.1), (.int .i64 x20_.2.2.2.2.2.1), (.int .u32 x20_.2.2.2.2.2.2.1), (.int .i64 x20_.2.2.2.2.2.2.2.1), (.int .u32 x20_.2.2.2.2.2.2.2.2.1), (.int .i64 x20_.2.2.2.2.2.2.2.2.2.1), (.int .u32 x20_.2.2.2.2.2.2.2.2.2.2.1), (.int .i64 x20_.2.2.2.2.2.2.2.2.2.2.2.1), (.int .u32 x20_.2.2.2.2.2.2.2.2.2.2.2.2.1), (.int .i64 x20_.2.2.2.2.2.2.2.2.2.2.2.2.2.1), (.int .u32 x20_.2.2.2.2.2.2.2.2.2.2.2.2.2.2.1), (.int .i64 x20_.2.2.2.2.2.2.2.2.2.2.2.2.2.2.2.1), (.int .u32 x20_.2.2.2.2.2.2.2.2.2.2.2.2.2.2.2.2.1), (.int .i64 x20_.2.2.2.2.2.2.2.2.2.2.2.2.2.2.2.2.2.1), (.int .u32 x20_.2.2.2.2.2.2.2.2.2.2.2.2.2.2.2.2.2.2.1), (.int .i64 x20_.2.2.2.2.2.2.2.2.2.2.2.2.2.2.2.2.2.2.2.1), (.int .u32 x20_.2.2.2.2.2.2.2.2.2.2.2.2.2.2.2.2.2.2.2.2.1), (.int .i64 x20_.2.2.2.2.2.2.2.2.2.2.2.2.2.2.2.2.2.2.2.2.2.1)]
 (f112c1 X L b1_)
def f112c3 (X : Task → M Value) (L : LoopI) (b1_ : Nat) (b10_ : Nat) (x19_ : Int) : M (Value) :=
 M.store ((Addr.mk b10_ 0 none).add ((Int.toNat 10) * 2)) [(.int .u32 x19_), (.int .i64 4)]
 (M.load (.agg [(.int .u32), (.int .i64), (.int .u32), (.int .i64), (.int .u32), (.int .i64), (.int .u32), (.int .i64), (.int .u32), (.int .i64), (.int .u32), (.int .i64), (.int .u32), (.int .i64), (.int .u32), (.int .i64), (.int .u32), (.int .i64), (.int .u32), (.int .i64), (.int .u32), (.int .i64)]) 22 (Addr.mk b10_ 0 none) fun (x20_ : Int × Int × Int × Int × Int × Int × Int × Int × Int × Int × Int × Int × Int × Int × Int × Int × Int × Int × Int × Int × Int × Int × Unit) =>
 f112c2 X L b1_ x20_)
def f112c4 (X : Task → M Value) (L : LoopI) (b0_ : Nat) (b1_ : Nat) (b10_ : Nat) : M (Value) :=
 M.load (.agg [(.int .u32), (.int .u32), (.int .u32), (.int .u32), (.int .u32), (.int .u32)]) 6 ((Addr.mk b0_ 0 none).add 4) fun (x11_ : Int × Int × Int × Int × Int × Int × Unit) =>
 M.bind (L (σ := (Int) × Unit) (ρ := (Unit) ⊕ (Unit)) (fun s12_ =>
 M.ite (decide (s12_.1 < 6))
 (f112c0 X L b10_ x11_ s12_)
 (M.pure (.inr (.inl (()))))) (0, ())) <| M.sum (fun (j18_ : Unit) =>
 M.load (.cell (.int .u32)) 1 ((Addr.mk b0_ 0 none).add 10) fun (x19_ : Int) =>
 M.guard (decide (0 ≤ 10) && decide (10 < ((11 : Nat) : Int)))
 (f112c3 X L b1_ b10_ x19_)) (fun _ => M.stuck)
def f112c5 (X : Task → M Value) (L : LoopI) (b0_ : Nat) (b1_ : Nat) (v3_ : Int) (v5_ : Int) (v7_ : Int) : M (Value) :=
 M.load (.cell (.int .i64)) 1 ((Addr.mk b0_ 0 none).add 2) fun (x8_ : Int) =>
 M.new (.cells (Row.ofList (zc 203)) 203 false (0, 0) false) fun b10_ =>
 M.store (Addr.mk b10_ 0 none) [(.int .u32 v3_), (.int .i64 2), (.int .u32 v5_), (.int .i64 1), (.int .u32 v7_), (.int .i64 1), (.int .u32 (IntKind.u32.wrap x8_)), (.int .i64 2), (.int .u32 0), (.int .i64 0), (.int .u32 0), (.int .i64 0), (.int .u32 0), (.int .i64 0), (.int .u32 0), (.int .i64 0), (.int .u32 0), (.int .i64 0), (.int .u32 0), (.int .i64 0), (.int .u32 0), (.int .i64 0)]
 (f112c4 X L b0_ b1_ b10_)
def f112c6 (X : Task → M Value) (L : LoopI) (x : (Int × Int × Int × Int × Int × Int × Int × Int × Int × Int × Int × Unit) × Unit) : M (Value) :=
 M.new (.cells (Row.ofList [(.int .i64 x.1.1), (.int .i64 x.1.2.1), (.int .i64 x.1.2.2.1), (.int .i64 x.1.2.2.2.1), (.int .u32 x.1.2.2.2.2.1), (.int .u32 x.1.2.2.2.2.2.1), (.int .u32 x.1.2.2.2.2.2.2.1), (.int .u32 x.1.2.2.2.2.2.2.2.1), (.int .u32 x.1.2.2.2.2.2.2.2.2.1), (.int .u32 x.1.2.2.2.2.2.2.2.2.2.1), (.int .u32 x.1.2.2.2.2.2.2.2.2.2.2.1)]) 34 false (0, 0) false) fun b0_ =>
 M.new (.cells (Row.ofList (zc 203)) 203 false (0, 0) false) fun b1_ =>
 M.load (.cell (.int .i64)) 1 ((Addr.mk b0_ 0 none).add 0) fun (x2_ : Int) =>
 M.load (.cell (.int .i64)) 1 ((Addr.mk b0_ 0 none).add 1) fun (x4_ : Int) =>
 M.load (.cell (.int .i64)) 1 ((Addr.mk b0_ 0 none).add 3) fun (x6_ : Int) =>
 f112c5 X L b0_ b1_ (IntKind.u32.wrap x2_) (IntKind.u32.wrap x4_) (IntKind.u32.wrap x6_)
def f112 (X : Task → M Value) (L : LoopI) (x : (Int × Int × Int × Int × Int × Int × Int × Int × Int × Int × Int × Unit) × Unit) : M Value :=
 f112c6 X L x

theorem e112 (X : Task → M Value) (L : LoopI) (x : (Int × Int × Int × Int × Int × Int × Int × Int × Int × Int × Int × Unit) × Unit) : evBody CC { call := X, loop := L } 112 (shsInj [(.agg [(.int .i64), (.int .i64), (.int .i64), (.int .i64), (.int .u32), (.int .u32), (.int .u32), (.int .u32), (.int .u32), (.int .u32), (.int .u32)])] x) = f112 X L x := by kernel_rfl

/-- slices.IndexFunc[[]uint32,uint32] -/
def f113c0 (X : Task → M Value) (L : LoopI) (x : ((Option Addr × Nat × Nat)) × (Value) × Unit) (v0_ : Int) : M (Value) :=
 M.bind (L (σ := (Int) × Unit) (ρ := (Unit) ⊕ (((Int) × Unit) ⊕ (Unit))) (fun s1_ =>
 M.ite (decide (s1_.1 < v0_))
 (M.guard (decide (0 ≤ s1_.1) && decide (s1_.1 < ((x.1.2.1 : Nat) : Int)))
 (M.deref x.1.1 fun a3_ =>
 M.load (.cell (.int .u32)) 1 (a3_.add ((Int.toNat s1_.1) * 1)) fun (x4_ : Int) =>
 callV CC ⟨X, L⟩ x.2.1 [(.int .u32 x4_)] fun w6_ => M.need (RSh.prj (.one (.cell .bool)) w6_) fun (r5_ : Bool) =>
 M.ite r5_
 (M.pure (.inr (.inr (.inl (s1_.1, ())))))
 (M.pure (.inl ((IntKind.i64.wrap (s1_.1 + 1)), ())))))
 (M.pure (.inr (.inl (()))))) (0, ())) <| M.sum (fun (j8_ : Unit) =>
 M.pure (.int .i64 (-1))) (M.sum (fun (j9_ : (Int) × Unit) =>
 M.pure (.int .i64 j9_.1)) (fun _ => M.stuck))
def f113 (X : Task → M Value) (L : LoopI) (x : ((Option Addr × Nat × Nat)) × (Value) × Unit) : M Value :=
 f113c0 X L x ((x.1.2.1 : Nat) : Int)

theorem e113 (X : Task → M Value) (L : LoopI) (x : ((Option Addr × Nat × Nat)) × (Value) × Unit) : evBody CC { call := X, loop := L } 113 (shsInj [(.cell .slice), (.cell .val)] x) = f113 X L x := by kernel_rfl

end
end Go.Proofs.YtcfnndmehnppnaaGreat.filesKnown
