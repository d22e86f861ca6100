/-
  What the functions that LogKnown reaches come to, part 0: each text, and that the reading gives it.
-/
import Derived.Test.YtcfnndmehnppnaaGreatLogKnownH
import Derived.KernelRfl
set_option linter.unusedVariables false
namespace Go.Proofs.YtcfnndmehnppnaaGreat.logKnown
open Go Go.Eng
noncomputable section
/-- hayrick/hayricklaw17.LogKnown -/
def f4c0 (X : Task → M Value) (L : LoopI) (r0_ : (Option Addr) × (Option Addr) × (Option Addr) × (Option Addr) × Unit) (b3_ : Nat) (s4_ : (Int) × Unit) (x6_ : Int × Bool × Int × Int × Unit) (r8_ : (Option Addr × Nat × Nat)) : M (((Int) × Unit) ⊕ ((Unit) ⊕ (Unit))) :=
 M.load (.agg [(.int .i64), .bool, (.int .i64), (.int .i64)]) 4 (Addr.mk b3_ 0 none) fun (x9_ : Int × Bool × Int × Int × Unit) => cond (veqv (.agg ⟨[(.int .i64 x9_.1), (.bool x9_.2.1), (.int .i64 x9_.2.2.1), (.int .i64 x9_.2.2.2.1)]⟩) (.agg ⟨[(.int .i64 x6_.1), (.bool x6_.2.1), (.int .i64 x6_.2.2.1), (.int .i64 x6_.2.2.2.1)]⟩)) (M.callS (.tuple [(.cell (.int .u32)), (.cell (.int .i64))]) (X (.call 21 [(.pointer r0_.1), (.agg ⟨[(.int .i64 x6_.1), (.bool x6_.2.1), (.int .i64 x6_.2.2.1), (.int .i64 x6_.2.2.2.1)]⟩), (.slice r8_.1 r8_.2.1 r8_.2.2)])) fun (r10_ : (Int) × (Int) × Unit) =>
 M.pure (.inl ((IntKind.i64.wrap (s4_.1 + 1)), ()))) M.stuck
def f4c1 (X : Task → M Value) (L : LoopI) (go49_ : ((Bool) × Unit) → M (Value)) : M (Value) :=
 M.callS (.one (.cell .slice)) (X (.call 34 [(.pointer none)])) fun (r71_ : (Option Addr × Nat × Nat)) =>
 M.ite (((r71_.2.1 : Nat) : Int) == 0)
 (M.callS (.one (.cell (.int .i64))) (X (.call 35 [(.pointer none)])) fun (r74_ : Int) =>
 M.ite (r74_ == (-1))
 (M.callS (.one (.cell .ptr)) (X (.call 36 [(.pointer none)])) fun (r76_ : Option Addr) =>
 M.eqPtr r76_ none fun (q77_ : Bool) =>
 M.ite q77_
 (M.callS (.one (.cell (.int .i64))) (X (.call 26 [(.pointer none), (.slice none 0 0)])) fun (r78_ : Int) =>
 go49_ ((r78_ == 2), ()))
 (go49_ (false, ())))
 (go49_ (false, ())))
 (go49_ (false, ()))
def f4c2 (X : Task → M Value) (L : LoopI) (go49_ : ((Bool) × Unit) → M (Value)) : M (Value) :=
 M.callS (.one (.cell (.int .i64))) (X (.call 23 [(.pointer none)])) fun (r63_ : Int) =>
 M.ite (r63_ == 2)
 (M.callS (.one (.cell (.int .i64))) (X (.call 31 [(.pointer none)])) fun (r65_ : Int) =>
 M.ite (r65_ == 2)
 (M.callS (.one (.cell (.int .i64))) (X (.call 32 [(.pointer none)])) fun (r67_ : Int) =>
 M.ite (r67_ == 0)
 (M.callS (.one (.cell (.int .u64))) (X (.call 33 [(.pointer none)])) fun (r69_ : Int) =>
 M.ite (r69_ == 0)
 (f4c1 X L go49_)
 (go49_ (false, ())))
 (go49_ (false, ())))
 (go49_ (false, ())))
 (go49_ (false, ()))
def f4c3 (X : Task → M Value) (L : LoopI) (r0_ : (Option Addr) × (Option Addr) × (Option Addr) × (Option Addr) × Unit) (r45_ : (Int) × (Int) × Unit) (r46_ : ((Option Addr × Nat × Nat)) × (Int) × Unit) (r47_ : (Option Addr) × (Int) × Unit) (go49_ : ((Bool) × Unit) → M (Value)) : M (Value) :=
 M.callS (.one (.cell (.int .i64))) (X (.call 23 [(.pointer r0_.1)])) fun (r54_ : Int) =>
 M.ite (r54_ == 20)
 (M.callS (.one (.cell (.int .i64))) (X (.call 31 [(.pointer r0_.1)])) fun (r56_ : Int) =>
 M.ite (r56_ == 20)
 (M.callS (.one (.cell (.int .i64))) (X (.call 26 [(.pointer r0_.1), (.slice none 0 0)])) fun (r58_ : Int) =>
 M.ite (r58_ == 20)
 (M.ite (r45_.2.1 == 2)
 (M.ite (r46_.2.1 == 2)
 (M.ite (r47_.2.1 == 2)
 (f4c2 X L go49_)
 (go49_ (false, ())))
 (go49_ (false, ())))
 (go49_ (false, ())))
 (go49_ (false, ())))
 (go49_ (false, ())))
 (go49_ (false, ()))
def f4c4 (X : Task → M Value) (L : LoopI) (r0_ : (Option Addr) × (Option Addr) × (Option Addr) × (Option Addr) × Unit) (r35_ : Int) (r39_ : (Int) × (Int) × Unit) (r40_ : ((Option Addr × Nat × Nat)) × (Int) × Unit) (r41_ : ((Option Addr × Nat × Nat)) × (Int) × Unit) (r45_ : (Int) × (Int) × Unit) : M (Value) :=
 M.callS (.tuple [(.cell .slice), (.cell (.int .i64))]) (X (.call 24 [(.pointer none), (.int .u32 2)])) fun (r46_ : ((Option Addr × Nat × Nat)) × (Int) × Unit) =>
 M.callS (.tuple [(.cell .ptr), (.cell (.int .i64))]) (X (.call 30 [(.pointer none), (.int .u64 1), (.slice none 0 0), (.slice none 0 0)])) fun (r47_ : (Option Addr) × (Int) × Unit) =>
 M.join (fun (j48_ : (Bool) × Unit) =>
 M.pure (.bool j48_.1)) fun go49_ =>
 M.ite (r35_ == 8)
 (M.ite (r39_.2.1 == 20)
 (M.ite (r40_.2.1 == 20)
 (M.ite (r41_.2.1 == 20)
 (f4c3 X L r0_ r45_ r46_ r47_ go49_)
 (go49_ (false, ())))
 (go49_ (false, ())))
 (go49_ (false, ())))
 (go49_ (false, ()))
def f4c5 (X : Task → M Value) (L : LoopI) (r0_ : (Option Addr) × (Option Addr) × (Option Addr) × (Option Addr) × Unit) (b3_ : Nat) (r35_ : Int) (r39_ : (Int) × (Int) × Unit) (r40_ : ((Option Addr × Nat × Nat)) × (Int) × Unit) (r41_ : ((Option Addr × Nat × Nat)) × (Int) × Unit) (x42_ : Int × Bool × Int × Int × Unit) (r43_ : (Option Addr × Nat × Nat)) : M (Value) :=
 M.load (.agg [(.int .i64), .bool, (.int .i64), (.int .i64)]) 4 (Addr.mk b3_ 0 none) fun (x44_ : Int × Bool × Int × Int × Unit) => cond (veqv (.agg ⟨[(.int .i64 x44_.1), (.bool x44_.2.1), (.int .i64 x44_.2.2.1), (.int .i64 x44_.2.2.2.1)]⟩) (.agg ⟨[(.int .i64 x42_.1), (.bool x42_.2.1), (.int .i64 x42_.2.2.1), (.int .i64 x42_.2.2.2.1)]⟩)) (M.callS (.tuple [(.cell (.int .u32)), (.cell (.int .i64))]) (X (.call 21 [(.pointer none), (.agg ⟨[(.int .i64 x42_.1), (.bool x42_.2.1), (.int .i64 x42_.2.2.1), (.int .i64 x42_.2.2.2.1)]⟩), (.slice r43_.1 r43_.2.1 r43_.2.2)])) fun (r45_ : (Int) × (Int) × Unit) =>
 f4c4 X L r0_ r35_ r39_ r40_ r41_ r45_) M.stuck
def f4c6 (X : Task → M Value) (L : LoopI) (r0_ : (Option Addr) × (Option Addr) × (Option Addr) × (Option Addr) × Unit) (b3_ : Nat) (r35_ : Int) (r39_ : (Int) × (Int) × Unit) : M (Value) :=
 M.callS (.tuple [(.cell .slice), (.cell (.int .i64))]) (X (.call 24 [(.pointer r0_.1), (.int .u32 2)])) fun (r40_ : ((Option Addr × Nat × Nat)) × (Int) × Unit) =>
 M.callS (.tuple [(.cell .slice), (.cell (.int .i64))]) (X (.call 25 [(.pointer r0_.1), (.int .i64 0)])) fun (r41_ : ((Option Addr × Nat × Nat)) × (Int) × Unit) =>
 M.load (.agg [(.int .i64), .bool, (.int .i64), (.int .i64)]) 4 (Addr.mk b3_ 0 none) fun (x42_ : Int × Bool × Int × Int × Unit) =>
 M.callS (.one (.cell .slice)) (X (.call 22 [(.int .u8 0)])) fun (r43_ : (Option Addr × Nat × Nat)) =>
 f4c5 X L r0_ b3_ r35_ r39_ r40_ r41_ x42_ r43_
def f4c7 (X : Task → M Value) (L : LoopI) (r0_ : (Option Addr) × (Option Addr) × (Option Addr) × (Option Addr) × Unit) (b3_ : Nat) (r35_ : Int) (x36_ : Int × Bool × Int × Int × Unit) (r37_ : (Option Addr × Nat × Nat)) : M (Value) :=
 M.load (.agg [(.int .i64), .bool, (.int .i64), (.int .i64)]) 4 (Addr.mk b3_ 0 none) fun (x38_ : Int × Bool × Int × Int × Unit) => cond (veqv (.agg ⟨[(.int .i64 x38_.1), (.bool x38_.2.1), (.int .i64 x38_.2.2.1), (.int .i64 x38_.2.2.2.1)]⟩) (.agg ⟨[(.int .i64 x36_.1), (.bool x36_.2.1), (.int .i64 x36_.2.2.1), (.int .i64 x36_.2.2.2.1)]⟩)) (M.callS (.tuple [(.cell (.int .u32)), (.cell (.int .i64))]) (X (.call 21 [(.pointer r0_.1), (.agg ⟨[(.int .i64 x36_.1), (.bool x36_.2.1), (.int .i64 x36_.2.2.1), (.int .i64 x36_.2.2.2.1)]⟩), (.slice r37_.1 r37_.2.1 r37_.2.2)])) fun (r39_ : (Int) × (Int) × Unit) =>
 f4c6 X L r0_ b3_ r35_ r39_) M.stuck
def f4c8 (X : Task → M Value) (L : LoopI) (r0_ : (Option Addr) × (Option Addr) × (Option Addr) × (Option Addr) × Unit) (b3_ : Nat) : M (Value) :=
 M.callS (.one (.cell .ptr)) (X (.call 28 [(.pointer r0_.2.2.1)])) fun (r33_ : Option Addr) =>
 M.callS (.tuple []) (X (.call 29 [(.pointer r33_), (.int .i64 1)])) fun (r34_ : Unit) =>
 M.callS (.one (.cell (.int .i64))) (X (.call 23 [(.pointer r0_.1)])) fun (r35_ : Int) =>
 M.load (.agg [(.int .i64), .bool, (.int .i64), (.int .i64)]) 4 (Addr.mk b3_ 0 none) fun (x36_ : Int × Bool × Int × Int × Unit) =>
 M.callS (.one (.cell .slice)) (X (.call 22 [(.int .u8 0)])) fun (r37_ : (Option Addr × Nat × Nat)) =>
 f4c7 X L r0_ b3_ r35_ x36_ r37_
def f4c9 (X : Task → M Value) (L : LoopI) (r23_ : ((Option Addr × Nat × Nat)) × (Int) × Unit) (r25_ : Int) (r27_ : (Int) × (Int) × Unit) (r29_ : (Int) × (Int) × Unit) (r30_ : ((Option Addr × Nat × Nat)) × (Int) × Unit) (go32_ : ((Bool) × Unit) → M (Value)) (v91_ : Bool) : M (Value) :=
 M.ite v91_
 (go32_ (true, ()))
 (M.ite (!(r23_.2.1 == 0))
 (go32_ (true, ()))
 (M.ite (!(r25_ == 1))
 (go32_ (true, ()))
 (M.ite (!(r27_.2.1 == 1))
 (go32_ (true, ()))
 (M.ite (!(r29_.2.1 == 1))
 (go32_ (true, ()))
 (M.ite (!(r30_.2.1 == 0))
 (go32_ (true, ()))
 (M.callS (.one (.cell .slice)) (X (.call 22 [(.int .u8 0)])) fun (r97_ : (Option Addr × Nat × Nat)) =>
 M.callS (.one (.cell .bool)) (X (.call 27 [(.slice r30_.1.1 r30_.1.2.1 r30_.1.2.2), (.slice r97_.1 r97_.2.1 r97_.2.2)])) fun (r98_ : Bool) =>
 go32_ ((!r98_), ())))))))
def f4c10 (X : Task → M Value) (L : LoopI) (r13_ : Int) (r17_ : (Int) × (Int) × Unit) (r18_ : ((Option Addr × Nat × Nat)) × (Int) × Unit) (r19_ : ((Option Addr × Nat × Nat)) × (Int) × Unit) (r20_ : ((Option Addr × Nat × Nat)) × (Int) × Unit) (r21_ : ((Option Addr × Nat × Nat)) × (Int) × Unit) (r22_ : ((Option Addr × Nat × Nat)) × (Int) × Unit) (r23_ : ((Option Addr × Nat × Nat)) × (Int) × Unit) (r25_ : Int) (r27_ : (Int) × (Int) × Unit) (r29_ : (Int) × (Int) × Unit) (r30_ : ((Option Addr × Nat × Nat)) × (Int) × Unit) (go32_ : ((Bool) × Unit) → M (Value)) : M (Value) :=
 M.ite (!(r13_ == 0))
 (go32_ (true, ()))
 (M.ite (!(r17_.1 == 10))
 (go32_ (true, ()))
 (M.ite (!(r17_.2.1 == 0))
 (go32_ (true, ()))
 (M.ite (!(r18_.2.1 == 6))
 (go32_ (true, ()))
 (M.ite (!(r19_.2.1 == 6))
 (go32_ (true, ()))
 (M.ite (!(r20_.2.1 == 6))
 (go32_ (true, ()))
 (M.ite (!(r21_.2.1 == 6))
 (go32_ (true, ()))
 (M.ite (!(((r22_.1.2.1 : Nat) : Int) == 0))
 (go32_ (true, ()))
 (M.ite (!(r22_.2.1 == 0))
 (go32_ (true, ()))
 (f4c9 X L r23_ r25_ r27_ r29_ r30_ go32_ (!(((r23_.1.2.1 : Nat) : Int) == 1)))))))))))
def f4c11 (X : Task → M Value) (L : LoopI) (r0_ : (Option Addr) × (Option Addr) × (Option Addr) × (Option Addr) × Unit) (b3_ : Nat) (r13_ : Int) (r17_ : (Int) × (Int) × Unit) (r18_ : ((Option Addr × Nat × Nat)) × (Int) × Unit) (r19_ : ((Option Addr × Nat × Nat)) × (Int) × Unit) (r20_ : ((Option Addr × Nat × Nat)) × (Int) × Unit) (r21_ : ((Option Addr × Nat × Nat)) × (Int) × Unit) (r22_ : ((Option Addr × Nat × Nat)) × (Int) × Unit) (r23_ : ((Option Addr × Nat × Nat)) × (Int) × Unit) (r25_ : Int) (r27_ : (Int) × (Int) × Unit) (x28_ : Int × Bool × Int × Int × Unit) : M (Value) :=
 M.callS (.tuple [(.cell (.int .u32)), (.cell (.int .i64))]) (X (.call 21 [(.pointer r0_.1), (.agg ⟨[(.int .i64 x28_.1), (.bool x28_.2.1), (.int .i64 x28_.2.2.1), (.int .i64 x28_.2.2.2.1)]⟩), (.slice none 0 0)])) fun (r29_ : (Int) × (Int) × Unit) =>
 M.callS (.tuple [(.cell .slice), (.cell (.int .i64))]) (X (.call 24 [(.pointer r0_.1), (.int .u32 7)])) fun (r30_ : ((Option Addr × Nat × Nat)) × (Int) × Unit) =>
 M.join (fun (j31_ : (Bool) × Unit) =>
 M.ite j31_.1
 (M.pure (.bool false))
 (f4c8 X L r0_ b3_)) fun go32_ =>
 f4c10 X L r13_ r17_ r18_ r19_ r20_ r21_ r22_ r23_ r25_ r27_ r29_ r30_ go32_
def f4c12 (X : Task → M Value) (L : LoopI) (r0_ : (Option Addr) × (Option Addr) × (Option Addr) × (Option Addr) × Unit) (b3_ : Nat) (r13_ : Int) (r17_ : (Int) × (Int) × Unit) (r18_ : ((Option Addr × Nat × Nat)) × (Int) × Unit) (r19_ : ((Option Addr × Nat × Nat)) × (Int) × Unit) (r20_ : ((Option Addr × Nat × Nat)) × (Int) × Unit) (r21_ : ((Option Addr × Nat × Nat)) × (Int) × Unit) (r22_ : ((Option Addr × Nat × Nat)) × (Int) × Unit) (r23_ : ((Option Addr × Nat × Nat)) × (Int) × Unit) (r25_ : Int) : M (Value) :=
 M.callS (.one (.cell .slice)) (X (.call 22 [(.int .u8 0)])) fun (r26_ : (Option Addr × Nat × Nat)) =>
 M.callS (.tuple [(.cell (.int .u32)), (.cell (.int .i64))]) (X (.call 21 [(.pointer r0_.1), (.agg ⟨[(.int .i64 0), (.bool false), (.int .i64 0), (.int .i64 0)]⟩), (.slice r26_.1 r26_.2.1 r26_.2.2)])) fun (r27_ : (Int) × (Int) × Unit) =>
 M.load (.agg [(.int .i64), .bool, (.int .i64), (.int .i64)]) 4 (Addr.mk b3_ 0 none) fun (x28_ : Int × Bool × Int × Int × Unit) =>
 f4c11 X L r0_ b3_ r13_ r17_ r18_ r19_ r20_ r21_ r22_ r23_ r25_ r27_ x28_
def f4c13 (X : Task → M Value) (L : LoopI) (r0_ : (Option Addr) × (Option Addr) × (Option Addr) × (Option Addr) × Unit) (b3_ : Nat) (r13_ : Int) (r17_ : (Int) × (Int) × Unit) (r18_ : ((Option Addr × Nat × Nat)) × (Int) × Unit) (r19_ : ((Option Addr × Nat × Nat)) × (Int) × Unit) (r20_ : ((Option Addr × Nat × Nat)) × (Int) × Unit) (r21_ : ((Option Addr × Nat × Nat)) × (Int) × Unit) : M (Value) :=
 M.callS (.tuple [(.cell .slice), (.cell (.int .i64))]) (X (.call 25 [(.pointer r0_.1), (.int .i64 5)])) fun (r22_ : ((Option Addr × Nat × Nat)) × (Int) × Unit) =>
 M.callS (.tuple [(.cell .slice), (.cell (.int .i64))]) (X (.call 25 [(.pointer r0_.1), (.int .i64 1)])) fun (r23_ : ((Option Addr × Nat × Nat)) × (Int) × Unit) =>
 M.new (.cells (Row.ofList [(.int .i64 2)]) 3 false (0, 0) false) fun b24_ =>
 M.callS (.one (.cell (.int .i64))) (X (.call 26 [(.pointer r0_.1), (.slice (some (Addr.mk b24_ 0 none)) 1 1)])) fun (r25_ : Int) =>
 f4c12 X L r0_ b3_ r13_ r17_ r18_ r19_ r20_ r21_ r22_ r23_ r25_
def f4c14 (X : Task → M Value) (L : LoopI) (r0_ : (Option Addr) × (Option Addr) × (Option Addr) × (Option Addr) × Unit) (b3_ : Nat) (r13_ : Int) (r17_ : (Int) × (Int) × Unit) (r18_ : ((Option Addr × Nat × Nat)) × (Int) × Unit) : M (Value) :=
 M.callS (.tuple [(.cell .slice), (.cell (.int .i64))]) (X (.call 24 [(.pointer r0_.1), (.int .u32 9)])) fun (r19_ : ((Option Addr × Nat × Nat)) × (Int) × Unit) =>
 M.callS (.tuple [(.cell .slice), (.cell (.int .i64))]) (X (.call 24 [(.pointer r0_.1), (.int .u32 0)])) fun (r20_ : ((Option Addr × Nat × Nat)) × (Int) × Unit) =>
 M.callS (.tuple [(.cell .slice), (.cell (.int .i64))]) (X (.call 25 [(.pointer r0_.1), (.int .i64 16)])) fun (r21_ : ((Option Addr × Nat × Nat)) × (Int) × Unit) =>
 f4c13 X L r0_ b3_ r13_ r17_ r18_ r19_ r20_ r21_
def f4c15 (X : Task → M Value) (L : LoopI) (r0_ : (Option Addr) × (Option Addr) × (Option Addr) × (Option Addr) × Unit) (b3_ : Nat) (r13_ : Int) (x14_ : Int × Bool × Int × Int × Unit) (r15_ : (Option Addr × Nat × Nat)) : M (Value) :=
 M.load (.agg [(.int .i64), .bool, (.int .i64), (.int .i64)]) 4 (Addr.mk b3_ 0 none) fun (x16_ : Int × Bool × Int × Int × Unit) => cond (veqv (.agg ⟨[(.int .i64 x16_.1), (.bool x16_.2.1), (.int .i64 x16_.2.2.1), (.int .i64 x16_.2.2.2.1)]⟩) (.agg ⟨[(.int .i64 x14_.1), (.bool x14_.2.1), (.int .i64 x14_.2.2.1), (.int .i64 x14_.2.2.2.1)]⟩)) (M.callS (.tuple [(.cell (.int .u32)), (.cell (.int .i64))]) (X (.call 21 [(.pointer r0_.1), (.agg ⟨[(.int .i64 x14_.1), (.bool x14_.2.1), (.int .i64 x14_.2.2.1), (.int .i64 x14_.2.2.2.1)]⟩), (.slice r15_.1 r15_.2.1 r15_.2.2)])) fun (r17_ : (Int) × (Int) × Unit) =>
 M.callS (.tuple [(.cell .slice), (.cell (.int .i64))]) (X (.call 24 [(.pointer r0_.1), (.int .u32 11)])) fun (r18_ : ((Option Addr × Nat × Nat)) × (Int) × Unit) =>
 f4c14 X L r0_ b3_ r13_ r17_ r18_) M.stuck
def f4c16 (X : Task → M Value) (L : LoopI) (r0_ : (Option Addr) × (Option Addr) × (Option Addr) × (Option Addr) × Unit) (b3_ : Nat) : M (Value) :=
 M.bind (L (σ := (Int) × Unit) (ρ := (Unit) ⊕ (Unit)) (fun s4_ =>
 M.ite (decide (s4_.1 < 4))
 (M.load (.agg [(.int .i64), .bool, (.int .i64), (.int .i64)]) 4 (Addr.mk b3_ 0 none) fun (x6_ : Int × Bool × Int × Int × Unit) =>
 M.callS (.one (.cell .slice)) (X (.call 22 [(.int .u8 (IntKind.u8.wrap s4_.1))])) fun (r8_ : (Option Addr × Nat × Nat)) =>
 f4c0 X L r0_ b3_ s4_ x6_ r8_)
 (M.pure (.inr (.inl (()))))) (0, ())) <| M.sum (fun (j12_ : Unit) =>
 M.callS (.one (.cell (.int .i64))) (X (.call 23 [(.pointer r0_.1)])) fun (r13_ : Int) =>
 M.load (.agg [(.int .i64), .bool, (.int .i64), (.int .i64)]) 4 (Addr.mk b3_ 0 none) fun (x14_ : Int × Bool × Int × Int × Unit) =>
 M.callS (.one (.cell .slice)) (X (.call 22 [(.int .u8 9)])) fun (r15_ : (Option Addr × Nat × Nat)) =>
 f4c15 X L r0_ b3_ r13_ x14_ r15_) (fun _ => M.stuck)
def f4c17 (X : Task → M Value) (L : LoopI) : M (Value) :=
 M.callS (.tuple [(.cell .ptr), (.cell .ptr), (.cell .ptr), (.cell .ptr)]) (X (.call 19 [(.int .i64 1), (.int .i64 1), (.int .i64 16)])) fun (r0_ : (Option Addr) × (Option Addr) × (Option Addr) × (Option Addr) × Unit) =>
 M.join (fun (j1_ : (Bool) × Unit) =>
 M.ite j1_.1
 (M.pure (.bool false))
 (M.new (.cells (Row.ofList [(.int .i64 0), (.bool false), (.int .i64 0), (.int .i64 0)]) 58 false (0, 0) false) fun b3_ =>
 M.store (Addr.mk b3_ 0 none) [(.int .i64 3), (.bool false), (.int .i64 1), (.int .i64 0)]
 (f4c16 X L r0_ b3_))) fun go2_ =>
 M.callS (.one (.cell .bool)) (X (.call 20 [])) fun (r100_ : Bool) =>
 M.ite (!r100_)
 (go2_ (true, ()))
 (M.eqPtr r0_.1 none fun (q102_ : Bool) =>
 go2_ (q102_, ()))
def f4 (X : Task → M Value) (L : LoopI) (x : Unit) : M Value :=
 f4c17 X L

theorem e4 (X : Task → M Value) (L : LoopI) (x : Unit) : evBody CC { call := X, loop := L } 4 (shsInj [] x) = f4 X L x := by kernel_rfl

/-- hayrick/hayricklaw17.Made -/
def f19c0 (X : Task → M Value) (L : LoopI) (x : (Int) × (Int) × (Int) × Unit) (r0_ : (Option Addr) × (Option Addr) × Unit) (r4_ : (Option Addr) × (Int) × Unit) (b5_ : Nat) (r6_ : (Option Addr × Nat × Nat)) : M (Value) :=
 M.callS (.tuple [(.cell .ptr), (.cell (.int .i64))]) (X (.call 51 [(.pointer r0_.2.1), (.int .u64 1), (.slice (some (Addr.mk b5_ 0 none)) (Int.toNat x.2.2.1) (Int.toNat x.2.2.1)), (.slice r6_.1 r6_.2.1 r6_.2.2)])) fun (r7_ : (Option Addr) × (Int) × Unit) =>
 M.join (fun (j8_ : (Bool) × Unit) =>
 M.ite j8_.1
 (M.pure (.tuple ⟨[(.pointer none), (.pointer none), (.pointer none), (.pointer none)]⟩))
 (M.pure (.tuple ⟨[(.pointer r4_.1), (.pointer r7_.1), (.pointer r0_.1), (.pointer r0_.2.1)]⟩))) fun go9_ =>
 M.ite (!(r4_.2.1 == 0))
 (go9_ (true, ()))
 (go9_ ((!(r7_.2.1 == 0)), ()))
def f19c1 (X : Task → M Value) (L : LoopI) (x : (Int) × (Int) × (Int) × Unit) (r0_ : (Option Addr) × (Option Addr) × Unit) (b2_ : Nat) (r3_ : (Option Addr × Nat × Nat)) : M (Value) :=
 M.callS (.tuple [(.cell .ptr), (.cell (.int .i64))]) (X (.call 30 [(.pointer r0_.1), (.int .u64 1), (.slice (some (Addr.mk b2_ 0 none)) (Int.toNat x.2.2.1) (Int.toNat x.2.2.1)), (.slice r3_.1 r3_.2.1 r3_.2.2)])) fun (r4_ : (Option Addr) × (Int) × Unit) =>
 M.guard (decide (0 ≤ x.2.2.1) && decide (x.2.2.1 ≤ x.2.2.1) && decide ((8 : Int) * x.2.2.1 ≤ 2 ^ 48))
 (M.new (.cells (Row.rep [(.int .u64 0)] (Int.toNat x.2.2.1)) 75 false (0, 0) false) fun b5_ =>
 M.callS (.one (.cell .slice)) (X (.call 50 [(.int .i64 x.2.2.1)])) fun (r6_ : (Option Addr × Nat × Nat)) =>
 f19c0 X L x r0_ r4_ b5_ r6_)
def f19c2 (X : Task → M Value) (L : LoopI) (x : (Int) × (Int) × (Int) × Unit) : M (Value) :=
 M.callS (.tuple [(.cell .ptr), (.cell .ptr)]) (X (.call 49 [(.int .i64 x.1), (.int .i64 x.2.1), (.int .i64 x.2.2.1), (.int .i64 0)])) fun (r0_ : (Option Addr) × (Option Addr) × Unit) =>
 M.eqPtr r0_.1 none fun (q1_ : Bool) =>
 M.ite q1_
 (M.pure (.tuple ⟨[(.pointer none), (.pointer none), (.pointer none), (.pointer none)]⟩))
 (M.guard (decide (0 ≤ x.2.2.1) && decide (x.2.2.1 ≤ x.2.2.1) && decide ((8 : Int) * x.2.2.1 ≤ 2 ^ 48))
 (M.new (.cells (Row.rep [(.int .u64 0)] (Int.toNat x.2.2.1)) 75 false (0, 0) false) fun b2_ =>
 M.callS (.one (.cell .slice)) (X (.call 50 [(.int .i64 x.2.2.1)])) fun (r3_ : (Option Addr × Nat × Nat)) =>
 f19c1 X L x r0_ b2_ r3_))
def f19 (X : Task → M Value) (L : LoopI) (x : (Int) × (Int) × (Int) × Unit) : M Value :=
 f19c2 X L x

theorem e19 (X : Task → M Value) (L : LoopI) (x : (Int) × (Int) × (Int) × Unit) : evBody CC { call := X, loop := L } 19 (shsInj [(.cell (.int .i64)), (.cell (.int .i64)), (.cell (.int .i64))] x) = f19 X L x := by kernel_rfl

/-- hayrick/hayricklaw17.awake -/
def f20c0 (X : Task → M Value) (L : LoopI) (s2_ : (Int) × Unit) (r7_ : (Int) × (Int) × Unit) : M (((Int) × Unit) ⊕ ((Unit) ⊕ (((Bool) × Unit) ⊕ (Unit)))) :=
 M.join (fun (j8_ : (Bool) × Unit) =>
 M.ite j8_.1
 (M.pure (.inr (.inr (.inl (false, ())))))
 (M.pure (.inl ((IntKind.i64.wrap (s2_.1 + 1)), ())))) fun go9_ =>
 M.ite (!(r7_.2.1 == 0))
 (go9_ (true, ()))
 (M.new (.cells (Row.ofList [(.int .u32 2), (.int .u32 3), (.int .u32 4), (.int .u32 6)]) 31 false (0, 0) false) fun b12_ =>
 M.guard (decide (0 ≤ s2_.1) && decide (s2_.1 < ((4 : Nat) : Int)))
 (M.load (.cell (.int .u32)) 1 ((Addr.mk b12_ 0 none).add ((Int.toNat s2_.1) * 1)) fun (x13_ : Int) =>
 go9_ ((!(r7_.1 == x13_)), ())))
def f20c1 (X : Task → M Value) (L : LoopI) (r0_ : (Option Addr) × (Option Addr) × (Option Addr) × (Option Addr) × Unit) (go18_ : ((Bool) × Unit) → M (Value)) : M (Value) :=
 M.callS (.one (.cell (.int .u64))) (X (.call 33 [(.pointer r0_.1)])) fun (r24_ : Int) =>
 M.ite (r24_ == 2)
 (M.callS (.one (.cell .slice)) (X (.call 34 [(.pointer r0_.1)])) fun (r26_ : (Option Addr × Nat × Nat)) =>
 M.guard (decide (0 ≤ 0) && decide (0 < ((r26_.2.1 : Nat) : Int)))
 (M.deref r26_.1 fun a27_ =>
 M.load (.cell (.int .u64)) 1 (a27_.add ((Int.toNat 0) * 1)) fun (x28_ : Int) =>
 M.ite (x28_ == 1)
 (M.callS (.one (.cell (.int .i64))) (X (.call 32 [(.pointer r0_.1)])) fun (r30_ : Int) =>
 go18_ ((r30_ == 14), ()))
 (go18_ (false, ()))))
 (go18_ (false, ()))
def f20c2 (X : Task → M Value) (L : LoopI) (r0_ : (Option Addr) × (Option Addr) × (Option Addr) × (Option Addr) × Unit) (r16_ : ((Option Addr × Nat × Nat)) × (Int) × Unit) : M (Value) :=
 M.join (fun (j17_ : (Bool) × Unit) =>
 M.pure (.bool j17_.1)) fun go18_ =>
 M.ite (r16_.2.1 == 0)
 (M.callS (.one (.cell .slice)) (X (.call 22 [(.int .u8 1)])) fun (r20_ : (Option Addr × Nat × Nat)) =>
 M.callS (.one (.cell .bool)) (X (.call 27 [(.slice r16_.1.1 r16_.1.2.1 r16_.1.2.2), (.slice r20_.1 r20_.2.1 r20_.2.2)])) fun (r21_ : Bool) =>
 M.ite r21_
 (M.callS (.one (.cell (.int .i64))) (X (.call 35 [(.pointer r0_.1)])) fun (r22_ : Int) =>
 M.ite (r22_ == 1)
 (f20c1 X L r0_ go18_)
 (go18_ (false, ())))
 (go18_ (false, ())))
 (go18_ (false, ()))
def f20c3 (X : Task → M Value) (L : LoopI) (r0_ : (Option Addr) × (Option Addr) × (Option Addr) × (Option Addr) × Unit) : M (Value) :=
 M.bind (L (σ := (Int) × Unit) (ρ := (Unit) ⊕ (((Bool) × Unit) ⊕ (Unit))) (fun s2_ =>
 M.ite (decide (s2_.1 < 4))
 (M.callS (.one (.cell .slice)) (X (.call 22 [(.int .u8 (IntKind.u8.wrap s2_.1))])) fun (r6_ : (Option Addr × Nat × Nat)) =>
 M.callS (.tuple [(.cell (.int .u32)), (.cell (.int .i64))]) (X (.call 21 [(.pointer r0_.1), (.agg ⟨[(.int .i64 3), (.bool false), (.int .i64 (IntKind.i64.wrap (1 + s2_.1))), (.int .i64 0)]⟩), (.slice r6_.1 r6_.2.1 r6_.2.2)])) fun (r7_ : (Int) × (Int) × Unit) =>
 f20c0 X L s2_ r7_)
 (M.pure (.inr (.inl (()))))) (0, ())) <| M.sum (fun (j15_ : Unit) =>
 M.callS (.tuple [(.cell .slice), (.cell (.int .i64))]) (X (.call 24 [(.pointer r0_.1), (.int .u32 3)])) fun (r16_ : ((Option Addr × Nat × Nat)) × (Int) × Unit) =>
 f20c2 X L r0_ r16_) (M.sum (fun (j32_ : (Bool) × Unit) =>
 M.pure (.bool j32_.1)) (fun _ => M.stuck))
def f20 (X : Task → M Value) (L : LoopI) (x : Unit) : M Value :=
 M.callS (.tuple [(.cell .ptr), (.cell .ptr), (.cell .ptr), (.cell .ptr)]) (X (.call 19 [(.int .i64 1), (.int .i64 1), (.int .i64 16)])) fun (r0_ : (Option Addr) × (Option Addr) × (Option Addr) × (Option Addr) × Unit) =>
 M.eqPtr r0_.1 none fun (q1_ : Bool) =>
 M.ite q1_
 (M.pure (.bool false))
 (f20c3 X L r0_)

theorem e20 (X : Task → M Value) (L : LoopI) (x : Unit) : evBody CC { call := X, loop := L } 20 (shsInj [] x) = f20 X L x := by kernel_rfl

/-- (*hayrick/logs.Log).Append -/
def f21c0 (X : Task → M Value) (L : LoopI) (b0_ : Nat) (b1_ : Nat) (b2_ : Nat) (b3_ : Nat) (x4_ : Option Addr) : M (Value) :=
 M.callS (.one (.cell (.int .i64))) (X (.call 52 [(.pointer x4_), (.func (.func 53) ⟨[]⟩ ⟨[(.pointer (some (Addr.mk b1_ 0 none))), (.pointer (some (Addr.mk b2_ 0 none))), (.pointer (some (Addr.mk b0_ 0 none))), (.pointer (some (Addr.mk b3_ 0 none)))]⟩)])) fun (r5_ : Int) =>
 M.ite (!(r5_ == 0))
 (M.store (Addr.mk b3_ 0 none) [(.int .u32 0)]
 (M.load (.cell (.int .u32)) 1 (Addr.mk b3_ 0 none) fun (x7_ : Int) =>
 M.pure (.tuple ⟨[(.int .u32 x7_), (.int .i64 r5_)]⟩)))
 (M.load (.cell (.int .u32)) 1 (Addr.mk b3_ 0 none) fun (x8_ : Int) =>
 M.store (Addr.mk b3_ 0 none) [(.int .u32 x8_)]
 (M.load (.cell (.int .u32)) 1 (Addr.mk b3_ 0 none) fun (x9_ : Int) =>
 M.pure (.tuple ⟨[(.int .u32 x9_), (.int .i64 0)]⟩)))
def f21c1 (X : Task → M Value) (L : LoopI) (x : (Option Addr) × (Int × Bool × Int × Int × Unit) × ((Option Addr × Nat × Nat)) × Unit) : M (Value) :=
 M.new (.cells (Row.ofList [(.pointer x.1)]) 40 false (0, 0) false) fun b0_ =>
 M.new (.cells (Row.ofList [(.int .i64 x.2.1.1), (.bool x.2.1.2.1), (.int .i64 x.2.1.2.2.1), (.int .i64 x.2.1.2.2.2.1)]) 58 false (0, 0) false) fun b1_ =>
 M.new (.cells (Row.ofList [(.slice x.2.2.1.1 x.2.2.1.2.1 x.2.2.1.2.2)]) 49 false (0, 0) false) fun b2_ =>
 M.new (.cells (Row.ofList [(.int .u32 0)]) 31 false (0, 0) false) fun b3_ =>
 M.load (.cell .ptr) 1 (Addr.mk b0_ 0 none) fun (x4_ : Option Addr) =>
 f21c0 X L b0_ b1_ b2_ b3_ x4_
def f21 (X : Task → M Value) (L : LoopI) (x : (Option Addr) × (Int × Bool × Int × Int × Unit) × ((Option Addr × Nat × Nat)) × Unit) : M Value :=
 f21c1 X L x

theorem e21 (X : Task → M Value) (L : LoopI) (x : (Option Addr) × (Int × Bool × Int × Int × Unit) × ((Option Addr × Nat × Nat)) × Unit) : evBody CC { call := X, loop := L } 21 (shsInj [(.cell .ptr), (.agg [(.int .i64), .bool, (.int .i64), (.int .i64)]), (.cell .slice)] x) = f21 X L x := by kernel_rfl

/-- hayrick/hayricklaw17.Block -/
def f22 (X : Task → M Value) (L : LoopI) (x : (Int) × Unit) : M Value :=
 M.new (.cells (Row.ofList [(.int .u8 x.1)]) 5 false (0, 0) false) fun b0_ =>
 M.callS (.one (.cell .slice)) (X (.call 60 [(.slice (some (Addr.mk b0_ 0 none)) 1 1), (.int .i64 112)])) fun (r1_ : (Option Addr × Nat × Nat)) =>
 M.pure (.slice r1_.1 r1_.2.1 r1_.2.2)

theorem e22 (X : Task → M Value) (L : LoopI) (x : (Int) × Unit) : evBody CC { call := X, loop := L } 22 (shsInj [(.cell (.int .u8))] x) = f22 X L x := by kernel_rfl

/-- (*hayrick/logs.Log).Sync -/
def f23 (X : Task → M Value) (L : LoopI) (x : (Option Addr) × Unit) : M Value :=
 M.new (.cells (Row.ofList [(.pointer x.1)]) 40 false (0, 0) false) fun b0_ =>
 M.load (.cell .ptr) 1 (Addr.mk b0_ 0 none) fun (x1_ : Option Addr) =>
 M.callS (.one (.cell (.int .i64))) (X (.call 52 [(.pointer x1_), (.func (.func 61) ⟨[]⟩ ⟨[(.pointer (some (Addr.mk b0_ 0 none)))]⟩)])) fun (r2_ : Int) =>
 M.pure (.int .i64 r2_)

theorem e23 (X : Task → M Value) (L : LoopI) (x : (Option Addr) × Unit) : evBody CC { call := X, loop := L } 23 (shsInj [(.cell .ptr)] x) = f23 X L x := by kernel_rfl

/-- (*hayrick/logs.Log).Block -/
def f24c0 (X : Task → M Value) (L : LoopI) (b0_ : Nat) (b1_ : Nat) (b2_ : Nat) (x3_ : Option Addr) : M (Value) :=
 M.callS (.one (.cell (.int .i64))) (X (.call 52 [(.pointer x3_), (.func (.func 64) ⟨[]⟩ ⟨[(.pointer (some (Addr.mk b0_ 0 none))), (.pointer (some (Addr.mk b1_ 0 none))), (.pointer (some (Addr.mk b2_ 0 none)))]⟩)])) fun (r4_ : Int) =>
 M.load (.cell .slice) 1 (Addr.mk b2_ 0 none) fun (x5_ : (Option Addr × Nat × Nat)) =>
 M.store (Addr.mk b2_ 0 none) [(.slice x5_.1 x5_.2.1 x5_.2.2)]
 (M.load (.cell .slice) 1 (Addr.mk b2_ 0 none) fun (x6_ : (Option Addr × Nat × Nat)) =>
 M.pure (.tuple ⟨[(.slice x6_.1 x6_.2.1 x6_.2.2), (.int .i64 r4_)]⟩))
def f24 (X : Task → M Value) (L : LoopI) (x : (Option Addr) × (Int) × Unit) : M Value :=
 M.new (.cells (Row.ofList [(.pointer x.1)]) 40 false (0, 0) false) fun b0_ =>
 M.new (.cells (Row.ofList [(.int .u32 x.2.1)]) 31 false (0, 0) false) fun b1_ =>
 M.new (.cells (Row.ofList [(.slice none 0 0)]) 49 false (0, 0) false) fun b2_ =>
 M.load (.cell .ptr) 1 (Addr.mk b0_ 0 none) fun (x3_ : Option Addr) =>
 f24c0 X L b0_ b1_ b2_ x3_

theorem e24 (X : Task → M Value) (L : LoopI) (x : (Option Addr) × (Int) × Unit) : evBody CC { call := X, loop := L } 24 (shsInj [(.cell .ptr), (.cell (.int .u32))] x) = f24 X L x := by kernel_rfl

/-- (*hayrick/logs.Log).Records -/
def f25c0 (X : Task → M Value) (L : LoopI) (b0_ : Nat) (b1_ : Nat) (b2_ : Nat) (x3_ : Option Addr) : M (Value) :=
 M.callS (.one (.cell (.int .i64))) (X (.call 52 [(.pointer x3_), (.func (.func 68) ⟨[]⟩ ⟨[(.pointer (some (Addr.mk b1_ 0 none))), (.pointer (some (Addr.mk b0_ 0 none))), (.pointer (some (Addr.mk b2_ 0 none)))]⟩)])) fun (r4_ : Int) =>
 M.load (.cell .slice) 1 (Addr.mk b2_ 0 none) fun (x5_ : (Option Addr × Nat × Nat)) =>
 M.store (Addr.mk b2_ 0 none) [(.slice x5_.1 x5_.2.1 x5_.2.2)]
 (M.load (.cell .slice) 1 (Addr.mk b2_ 0 none) fun (x6_ : (Option Addr × Nat × Nat)) =>
 M.pure (.tuple ⟨[(.slice x6_.1 x6_.2.1 x6_.2.2), (.int .i64 r4_)]⟩))
def f25 (X : Task → M Value) (L : LoopI) (x : (Option Addr) × (Int) × Unit) : M Value :=
 M.new (.cells (Row.ofList [(.pointer x.1)]) 40 false (0, 0) false) fun b0_ =>
 M.new (.cells (Row.ofList [(.int .i64 x.2.1)]) 3 false (0, 0) false) fun b1_ =>
 M.new (.cells (Row.ofList [(.slice none 0 0)]) 64 false (0, 0) false) fun b2_ =>
 M.load (.cell .ptr) 1 (Addr.mk b0_ 0 none) fun (x3_ : Option Addr) =>
 f25c0 X L b0_ b1_ b2_ x3_

theorem e25 (X : Task → M Value) (L : LoopI) (x : (Option Addr) × (Int) × Unit) : evBody CC { call := X, loop := L } 25 (shsInj [(.cell .ptr), (.cell (.int .i64))] x) = f25 X L x := by kernel_rfl

/-- (*hayrick/logs.Log).SetFree -/
def f26 (X : Task → M Value) (L : LoopI) (x : (Option Addr) × ((Option Addr × Nat × Nat)) × Unit) : M Value :=
 M.new (.cells (Row.ofList [(.pointer x.1)]) 40 false (0, 0) false) fun b0_ =>
 M.new (.cells (Row.ofList [(.slice x.2.1.1 x.2.1.2.1 x.2.1.2.2)]) 68 false (0, 0) false) fun b1_ =>
 M.load (.cell .ptr) 1 (Addr.mk b0_ 0 none) fun (x2_ : Option Addr) =>
 M.callS (.one (.cell (.int .i64))) (X (.call 52 [(.pointer x2_), (.func (.func 71) ⟨[]⟩ ⟨[(.pointer (some (Addr.mk b1_ 0 none))), (.pointer (some (Addr.mk b0_ 0 none)))]⟩)])) fun (r3_ : Int) =>
 M.pure (.int .i64 r3_)

theorem e26 (X : Task → M Value) (L : LoopI) (x : (Option Addr) × ((Option Addr × Nat × Nat)) × Unit) : evBody CC { call := X, loop := L } 26 (shsInj [(.cell .ptr), (.cell .slice)] x) = f26 X L x := by kernel_rfl

/-- bytes.Equal -/
def f27 (X : Task → M Value) (L : LoopI) (x : ((Option Addr × Nat × Nat)) × ((Option Addr × Nat × Nat)) × Unit) : M Value :=
 M.toStr x.1.1 x.1.2.1 fun s0_ =>
 M.toStr x.2.1.1 x.2.1.2.1 fun s1_ =>
 M.pure (.bool (seq s0_ s1_))

theorem e27 (X : Task → M Value) (L : LoopI) (x : ((Option Addr × Nat × Nat)) × ((Option Addr × Nat × Nat)) × Unit) : evBody CC { call := X, loop := L } 27 (shsInj [(.cell .slice), (.cell .slice)] x) = f27 X L x := by kernel_rfl

/-- (*hayrick/stripe.Stripes).Array -/
def f28 (X : Task → M Value) (L : LoopI) (x : (Option Addr) × Unit) : M Value :=
 M.eqPtr x.1 none fun (q0_ : Bool) =>
 M.ite q0_
 (M.pure (.pointer none))
 (M.deref x.1 fun a1_ =>
 M.load (.cell .ptr) 1 (a1_.add 0) fun (x2_ : Option Addr) =>
 M.pure (.pointer x2_))

theorem e28 (X : Task → M Value) (L : LoopI) (x : (Option Addr) × Unit) : evBody CC { call := X, loop := L } 28 (shsInj [(.cell .ptr)] x) = f28 X L x := by kernel_rfl

/-- (*hayrick/array.Array).Fuse -/
def f29 (X : Task → M Value) (L : LoopI) (x : (Option Addr) × (Int) × Unit) : M Value :=
 M.eqPtr x.1 none fun (q0_ : Bool) =>
 M.ite (!q0_)
 (M.deref x.1 fun a3_ =>
 M.store (a3_.add 3) [(.int .i64 (if x.2.1 < 0 then 0 else x.2.1))]
 (M.pure (.tuple ⟨[]⟩)))
 (M.pure (.tuple ⟨[]⟩))

theorem e29 (X : Task → M Value) (L : LoopI) (x : (Option Addr) × (Int) × Unit) : evBody CC { call := X, loop := L } 29 (shsInj [(.cell .ptr), (.cell (.int .i64))] x) = f29 X L x := by kernel_rfl

/-- hayrick/logs.New -/
def f30c0 (X : Task → M Value) (L : LoopI) (x : (Option Addr) × (Int) × ((Option Addr × Nat × Nat)) × ((Option Addr × Nat × Nat)) × Unit) : M (Value) :=
 M.callS (.one (.cell .slice)) (X (.call 75 [(.slice x.2.2.1.1 x.2.2.1.2.1 x.2.2.1.2.2)])) fun (r5_ : (Option Addr × Nat × Nat)) =>
 M.callS (.one (.cell .slice)) (X (.call 73 [(.slice x.2.2.2.1.1 x.2.2.2.1.2.1 x.2.2.2.1.2.2)])) fun (r6_ : (Option Addr × Nat × Nat)) =>
 M.new (.cells (Row.ofList [(.pointer x.1), (.int .u64 x.2.1), (.slice r5_.1 r5_.2.1 r5_.2.2), (.slice r6_.1 r6_.2.1 r6_.2.2), (.int .i64 (-1)), (.slice none 0 0), (.slice none 0 0), (.bool false)]) 113 false (0, 0) false) fun b7_ =>
 M.pure (.tuple ⟨[(.pointer (some (Addr.mk b7_ 0 none))), (.int .i64 0)]⟩)
def f30c1 (X : Task → M Value) (L : LoopI) (x : (Option Addr) × (Int) × ((Option Addr × Nat × Nat)) × ((Option Addr × Nat × Nat)) × Unit) : M (Value) :=
 M.callS (.one (.agg [(.int .i64), (.int .i64), (.int .i64)])) (X (.call 74 [(.pointer x.1)])) fun (r2_ : Int × Int × Int × Unit) =>
 M.join (fun (j3_ : (Bool) × Unit) =>
 M.ite j3_.1
 (M.pure (.tuple ⟨[(.pointer none), (.int .i64 1)]⟩))
 (f30c0 X L x)) fun go4_ =>
 M.ite (x.2.1 == 0)
 (go4_ (true, ()))
 (M.ite (!(((x.2.2.1.2.1 : Nat) : Int) == r2_.2.2.1))
 (go4_ (true, ()))
 (M.callS (.one (.cell .bool)) (X (.call 72 [(.slice x.2.2.2.1.1 x.2.2.2.1.2.1 x.2.2.2.1.2.2), (.int .i64 r2_.2.2.1), (.int .i64 (-1))])) fun (r11_ : Bool) =>
 go4_ ((!r11_), ())))
def f30 (X : Task → M Value) (L : LoopI) (x : (Option Addr) × (Int) × ((Option Addr × Nat × Nat)) × ((Option Addr × Nat × Nat)) × Unit) : M Value :=
 M.callS (.one (.cell .ptr)) (X (.call 28 [(.pointer x.1)])) fun (r0_ : Option Addr) =>
 M.eqPtr r0_ none fun (q1_ : Bool) =>
 M.ite q1_
 (M.pure (.tuple ⟨[(.pointer none), (.int .i64 2)]⟩))
 (f30c1 X L x)

theorem e30 (X : Task → M Value) (L : LoopI) (x : (Option Addr) × (Int) × ((Option Addr × Nat × Nat)) × ((Option Addr × Nat × Nat)) × Unit) : evBody CC { call := X, loop := L } 30 (shsInj [(.cell .ptr), (.cell (.int .u64)), (.cell .slice), (.cell .slice)] x) = f30 X L x := by kernel_rfl

/-- (*hayrick/logs.Log).Flush -/
def f31 (X : Task → M Value) (L : LoopI) (x : (Option Addr) × Unit) : M Value :=
 M.new (.cells (Row.ofList [(.pointer x.1)]) 40 false (0, 0) false) fun b0_ =>
 M.load (.cell .ptr) 1 (Addr.mk b0_ 0 none) fun (x1_ : Option Addr) =>
 M.callS (.one (.cell (.int .i64))) (X (.call 52 [(.pointer x1_), (.func (.func 76) ⟨[]⟩ ⟨[(.pointer (some (Addr.mk b0_ 0 none)))]⟩)])) fun (r2_ : Int) =>
 M.pure (.int .i64 r2_)

theorem e31 (X : Task → M Value) (L : LoopI) (x : (Option Addr) × Unit) : evBody CC { call := X, loop := L } 31 (shsInj [(.cell .ptr)] x) = f31 X L x := by kernel_rfl

/-- (*hayrick/logs.Log).Free -/
def f32 (X : Task → M Value) (L : LoopI) (x : (Option Addr) × Unit) : M Value :=
 M.eqPtr x.1 none fun (q0_ : Bool) =>
 M.ite q0_
 (M.pure (.int .i64 0))
 (M.deref x.1 fun a1_ =>
 M.load (.cell .slice) 1 (a1_.add 3) fun (x2_ : (Option Addr × Nat × Nat)) =>
 M.pure (.int .i64 ((x2_.2.1 : Nat) : Int)))

theorem e32 (X : Task → M Value) (L : LoopI) (x : (Option Addr) × Unit) : evBody CC { call := X, loop := L } 32 (shsInj [(.cell .ptr)] x) = f32 X L x := by kernel_rfl

/-- (*hayrick/logs.Log).Next -/
def f33 (X : Task → M Value) (L : LoopI) (x : (Option Addr) × Unit) : M Value :=
 M.eqPtr x.1 none fun (q0_ : Bool) =>
 M.ite q0_
 (M.pure (.int .u64 0))
 (M.deref x.1 fun a1_ =>
 M.load (.cell (.int .u64)) 1 (a1_.add 1) fun (x2_ : Int) =>
 M.pure (.int .u64 x2_))

theorem e33 (X : Task → M Value) (L : LoopI) (x : (Option Addr) × Unit) : evBody CC { call := X, loop := L } 33 (shsInj [(.cell .ptr)] x) = f33 X L x := by kernel_rfl

/-- (*hayrick/logs.Log).Seqs -/
def f34 (X : Task → M Value) (L : LoopI) (x : (Option Addr) × Unit) : M Value :=
 M.eqPtr x.1 none fun (q0_ : Bool) =>
 M.ite q0_
 (M.pure (.slice none 0 0))
 (M.deref x.1 fun a1_ =>
 M.load (.cell .slice) 1 (a1_.add 2) fun (x2_ : (Option Addr × Nat × Nat)) =>
 M.callS (.one (.cell .slice)) (X (.call 75 [(.slice x2_.1 x2_.2.1 x2_.2.2)])) fun (r3_ : (Option Addr × Nat × Nat)) =>
 M.pure (.slice r3_.1 r3_.2.1 r3_.2.2))

theorem e34 (X : Task → M Value) (L : LoopI) (x : (Option Addr) × Unit) : evBody CC { call := X, loop := L } 34 (shsInj [(.cell .ptr)] x) = f34 X L x := by kernel_rfl

/-- (*hayrick/logs.Log).Open -/
def f35 (X : Task → M Value) (L : LoopI) (x : (Option Addr) × Unit) : M Value :=
 M.join (fun (j0_ : (Bool) × Unit) =>
 M.ite j0_.1
 (M.pure (.int .i64 (-1)))
 (M.deref x.1 fun a2_ =>
 M.load (.cell (.int .i64)) 1 (a2_.add 4) fun (x3_ : Int) =>
 M.pure (.int .i64 x3_))) fun go1_ =>
 M.eqPtr x.1 none fun (q4_ : Bool) =>
 M.ite q4_
 (go1_ (true, ()))
 (M.deref x.1 fun a5_ =>
 M.load (.cell .ptr) 1 (a5_.add 0) fun (x6_ : Option Addr) =>
 M.eqPtr x6_ none fun (q7_ : Bool) =>
 go1_ (q7_, ()))

theorem e35 (X : Task → M Value) (L : LoopI) (x : (Option Addr) × Unit) : evBody CC { call := X, loop := L } 35 (shsInj [(.cell .ptr)] x) = f35 X L x := by kernel_rfl

/-- (*hayrick/logs.Log).Stripes -/
def f36 (X : Task → M Value) (L : LoopI) (x : (Option Addr) × Unit) : M Value :=
 M.eqPtr x.1 none fun (q0_ : Bool) =>
 M.ite q0_
 (M.pure (.pointer none))
 (M.deref x.1 fun a1_ =>
 M.load (.cell .ptr) 1 (a1_.add 0) fun (x2_ : Option Addr) =>
 M.pure (.pointer x2_))

theorem e36 (X : Task → M Value) (L : LoopI) (x : (Option Addr) × Unit) : evBody CC { call := X, loop := L } 36 (shsInj [(.cell .ptr)] x) = f36 X L x := by kernel_rfl

/-- hayrick/hayricklaw08.Made -/
def f49c0 (X : Task → M Value) (L : LoopI) (x : (Int) × (Int) × (Int) × (Int) × Unit) (b1_ : Nat) (r9_ : (Option Addr) × (Int) × Unit) (r13_ : (Option Addr) × (Int) × Unit) : M (Value) :=
 M.load (.agg [(.int .i64), (.int .i64), (.int .i64)]) 3 (Addr.mk b1_ 0 none) fun (x14_ : Int × Int × Int × Unit) =>
 M.callS (.tuple [(.cell .ptr), (.cell (.int .i64))]) (X (.call 98 [(.pointer r9_.1), (.agg ⟨[(.int .i64 x14_.1), (.int .i64 x14_.2.1), (.int .i64 x14_.2.2.1)]⟩), (.int .i64 x.2.2.2.1)])) fun (r15_ : (Option Addr) × (Int) × Unit) =>
 M.join (fun (j16_ : (Bool) × Unit) =>
 M.ite j16_.1
 (M.pure (.tuple ⟨[(.pointer none), (.pointer none)]⟩))
 (M.pure (.tuple ⟨[(.pointer r13_.1), (.pointer r15_.1)]⟩))) fun go17_ =>
 M.ite (!(r13_.2.1 == 0))
 (go17_ (true, ()))
 (go17_ ((!(r15_.2.1 == 0)), ()))
def f49c1 (X : Task → M Value) (L : LoopI) (x : (Int) × (Int) × (Int) × (Int) × Unit) (b1_ : Nat) (r5_ : (Option Addr) × (Int) × Unit) (r9_ : (Option Addr) × (Int) × Unit) : M (Value) :=
 M.join (fun (j10_ : (Bool) × Unit) =>
 M.ite j10_.1
 (M.pure (.tuple ⟨[(.pointer none), (.pointer none)]⟩))
 (M.load (.agg [(.int .i64), (.int .i64), (.int .i64)]) 3 (Addr.mk b1_ 0 none) fun (x12_ : Int × Int × Int × Unit) =>
 M.callS (.tuple [(.cell .ptr), (.cell (.int .i64))]) (X (.call 97 [(.pointer r5_.1), (.agg ⟨[(.int .i64 x12_.1), (.int .i64 x12_.2.1), (.int .i64 x12_.2.2.1)]⟩), (.int .i64 x.2.2.2.1)])) fun (r13_ : (Option Addr) × (Int) × Unit) =>
 f49c0 X L x b1_ r9_ r13_)) fun go11_ =>
 M.ite (!(r5_.2.1 == 0))
 (go11_ (true, ()))
 (go11_ ((!(r9_.2.1 == 0)), ()))
def f49c2 (X : Task → M Value) (L : LoopI) (x : (Int) × (Int) × (Int) × (Int) × Unit) (b1_ : Nat) (x2_ : Int) : M (Value) :=
 M.callS (.tuple [(.cell .ptr), (.cell (.int .i64))]) (X (.call 95 [(.int .i64 x2_), (.int .i64 (IntKind.i64.wrap (x.2.2.2.1 + (IntKind.i64.wrap (8 * x.2.2.1)))))])) fun (r5_ : (Option Addr) × (Int) × Unit) =>
 M.load (.cell (.int .i64)) 1 ((Addr.mk b1_ 0 none).add 1) fun (x6_ : Int) =>
 M.callS (.tuple [(.cell .ptr), (.cell (.int .i64))]) (X (.call 96 [(.int .i64 x6_), (.int .i64 (IntKind.i64.wrap (x.2.2.2.1 + (IntKind.i64.wrap (8 * x.2.2.1)))))])) fun (r9_ : (Option Addr) × (Int) × Unit) =>
 f49c1 X L x b1_ r5_ r9_
def f49 (X : Task → M Value) (L : LoopI) (x : (Int) × (Int) × (Int) × (Int) × Unit) : M Value :=
 M.new (.cells (Row.ofList [(.int .i64 0), (.int .i64 0), (.int .i64 0)]) 127 false (0, 0) false) fun b1_ =>
 M.store (Addr.mk b1_ 0 none) [(.int .i64 x.1), (.int .i64 (IntKind.i64.wrap (x.1 + x.2.1))), (.int .i64 x.2.2.1)]
 (M.load (.cell (.int .i64)) 1 ((Addr.mk b1_ 0 none).add 1) fun (x2_ : Int) =>
 f49c2 X L x b1_ x2_)

theorem e49 (X : Task → M Value) (L : LoopI) (x : (Int) × (Int) × (Int) × (Int) × Unit) : evBody CC { call := X, loop := L } 49 (shsInj [(.cell (.int .i64)), (.cell (.int .i64)), (.cell (.int .i64)), (.cell (.int .i64))] x) = f49 X L x := by kernel_rfl

/-- hayrick/hayricklaw17.Every -/
def f50c0 (X : Task → M Value) (L : LoopI) (x : (Int) × Unit) : M (Value) :=
 M.bind (L (σ := ((Option Addr × Nat × Nat)) × (Int) × Unit) (ρ := (((Option Addr × Nat × Nat)) × Unit) ⊕ (Unit)) (fun s0_ =>
 M.ite (decide (s0_.2.1 < x.1))
 (M.new (.cells (Row.ofList [(.int .i64 s0_.2.1)]) 3 false (0, 0) false) fun b2_ =>
 M.append 3 1 8 s0_.1.1 s0_.1.2.1 s0_.1.2.2 (.slice (some (Addr.mk b2_ 0 none)) 1 1) fun a3_ n4_ c5_ =>
 M.pure (.inl ((a3_, n4_, c5_), (IntKind.i64.wrap (s0_.2.1 + 1)), ())))
 (M.pure (.inr (.inl (s0_.1, ()))))) ((none, 0, 0), 0, ())) <| M.sum (fun (j7_ : ((Option Addr × Nat × Nat)) × Unit) =>
 M.pure (.slice j7_.1.1 j7_.1.2.1 j7_.1.2.2)) (fun _ => M.stuck)
def f50 (X : Task → M Value) (L : LoopI) (x : (Int) × Unit) : M Value :=
 f50c0 X L x

theorem e50 (X : Task → M Value) (L : LoopI) (x : (Int) × Unit) : evBody CC { call := X, loop := L } 50 (shsInj [(.cell (.int .i64))] x) = f50 X L x := by kernel_rfl

/-- hayrick/hayrickref17.New -/
def f51c0 (X : Task → M Value) (L : LoopI) (x : (Option Addr) × (Int) × ((Option Addr × Nat × Nat)) × ((Option Addr × Nat × Nat)) × Unit) (r2_ : ((Option Addr × Nat × Nat)) × (Bool) × Unit) : M (Value) :=
 M.join (fun (j3_ : (Bool) × Unit) =>
 M.ite j3_.1
 (M.pure (.tuple ⟨[(.pointer none), (.int .i64 1)]⟩))
 (M.append 75 1 8 none 0 0 (.slice x.2.2.1.1 x.2.2.1.2.1 x.2.2.1.2.2) fun a5_ n6_ c7_ =>
 M.new (.cells (Row.ofList [(.pointer x.1), (.int .u64 x.2.1), (.slice a5_ n6_ c7_), (.slice r2_.1.1 r2_.1.2.1 r2_.1.2.2), (.int .i64 (-1)), (.slice none 0 0), (.slice none 0 0), (.bool false)]) 175 false (0, 0) false) fun b8_ =>
 M.pure (.tuple ⟨[(.pointer (some (Addr.mk b8_ 0 none))), (.int .i64 0)]⟩))) fun go4_ =>
 M.ite (x.2.1 == 0)
 (go4_ (true, ()))
 (M.deref x.1 fun a11_ =>
 M.load (.cell (.int .i64)) 1 ((a11_.add 1).add 2) fun (x12_ : Int) =>
 M.ite (!(((x.2.2.1.2.1 : Nat) : Int) == x12_))
 (go4_ (true, ()))
 (go4_ ((!r2_.2.1), ())))
def f51 (X : Task → M Value) (L : LoopI) (x : (Option Addr) × (Int) × ((Option Addr × Nat × Nat)) × ((Option Addr × Nat × Nat)) × Unit) : M Value :=
 M.deref x.1 fun a0_ =>
 M.load (.cell (.int .i64)) 1 ((a0_.add 1).add 2) fun (x1_ : Int) =>
 M.callS (.tuple [(.cell .slice), (.cell .bool)]) (X (.call 99 [(.slice x.2.2.2.1.1 x.2.2.2.1.2.1 x.2.2.2.1.2.2), (.int .i64 x1_), (.int .i64 (-1))])) fun (r2_ : ((Option Addr × Nat × Nat)) × (Bool) × Unit) =>
 f51c0 X L x r2_

theorem e51 (X : Task → M Value) (L : LoopI) (x : (Option Addr) × (Int) × ((Option Addr × Nat × Nat)) × ((Option Addr × Nat × Nat)) × Unit) : evBody CC { call := X, loop := L } 51 (shsInj [(.cell .ptr), (.cell (.int .u64)), (.cell .slice), (.cell .slice)] x) = f51 X L x := by kernel_rfl

/-- (*hayrick/logs.Log).does -/
def f52c0 (X : Task → M Value) (L : LoopI) (x : (Option Addr) × (Value) × Unit) : M (Value) :=
 M.join (fun (j0_ : (Bool) × Unit) =>
 M.ite j0_.1
 (M.pure (.int .i64 2))
 (M.deref x.1 fun a2_ =>
 M.load (.cell .bool) 1 (a2_.add 7) fun (x3_ : Bool) =>
 M.ite x3_
 (M.pure (.int .i64 20))
 (callV CC ⟨X, L⟩ x.2.1 [] fun w5_ => M.need (RSh.prj (.one (.cell (.int .i64))) w5_) fun (r4_ : Int) =>
 M.pure (.int .i64 r4_)))) fun go1_ =>
 M.eqPtr x.1 none fun (q6_ : Bool) =>
 M.ite q6_
 (go1_ (true, ()))
 (M.deref x.1 fun a7_ =>
 M.load (.cell .ptr) 1 (a7_.add 0) fun (x8_ : Option Addr) =>
 M.eqPtr x8_ none fun (q9_ : Bool) =>
 go1_ (q9_, ()))
def f52 (X : Task → M Value) (L : LoopI) (x : (Option Addr) × (Value) × Unit) : M Value :=
 f52c0 X L x

theorem e52 (X : Task → M Value) (L : LoopI) (x : (Option Addr) × (Value) × Unit) : evBody CC { call := X, loop := L } 52 (shsInj [(.cell .ptr), (.cell .val)] x) = f52 X L x := by kernel_rfl

/-- (*hayrick/logs.Log).Append$1 -/
def f53c0 (X : Task → M Value) (L : LoopI) (x : (Option Addr) × (Option Addr) × (Option Addr) × (Option Addr) × Unit) (x75_ : Option Addr) (a76_ : Addr) (x77_ : (Option Addr × Nat × Nat)) (v78_ : Int) (r85_ : Int) : M (Value) :=
 M.load (.cell .slice) 1 (a76_.add 5) fun (x86_ : (Option Addr × Nat × Nat)) => cond (veqv (.slice x86_.1 x86_.2.1 x86_.2.2) (.slice x77_.1 x77_.2.1 x77_.2.2)) (M.deref x.2.2.1 fun a87_ =>
 M.load (.cell .ptr) 1 a87_ fun (x88_ : Option Addr) => cond (veqv (.pointer x88_) (.pointer x75_)) (M.ite (v78_ == r85_)
 (M.deref x.2.2.1 fun a90_ =>
 M.load (.cell .ptr) 1 a90_ fun (x91_ : Option Addr) =>
 M.callS (.one (.cell (.int .i64))) (X (.call 59 [(.pointer x91_)])) fun (r92_ : Int) =>
 M.pure (.int .i64 r92_))
 (M.pure (.int .i64 0))) M.stuck) M.stuck
def f53c1 (X : Task → M Value) (L : LoopI) (x : (Option Addr) × (Option Addr) × (Option Addr) × (Option Addr) × Unit) (x75_ : Option Addr) (a76_ : Addr) (x77_ : (Option Addr × Nat × Nat)) (v78_ : Int) (x80_ : Option Addr) : M (Value) :=
 M.callS (.one (.cell (.int .i64))) (X (.call 56 [(.pointer x80_)])) fun (r81_ : Int) =>
 M.load (.cell .slice) 1 (a76_.add 5) fun (x82_ : (Option Addr × Nat × Nat)) => cond (veqv (.slice x82_.1 x82_.2.1 x82_.2.2) (.slice x77_.1 x77_.2.1 x77_.2.2)) (M.deref x.2.2.1 fun a83_ =>
 M.load (.cell .ptr) 1 a83_ fun (x84_ : Option Addr) => cond (veqv (.pointer x84_) (.pointer x75_)) (M.callS (.one (.cell (.int .i64))) (X (.call 58 [(.int .i64 r81_)])) fun (r85_ : Int) =>
 f53c0 X L x x75_ a76_ x77_ v78_ r85_) M.stuck) M.stuck
def f53c2 (X : Task → M Value) (L : LoopI) (x : (Option Addr) × (Option Addr) × (Option Addr) × (Option Addr) × Unit) (x28_ : Option Addr) (a63_ : Option Addr) (n64_ : Nat) (c65_ : Nat) : M (Value) :=
 M.deref x.2.2.1 fun a71_ =>
 M.load (.cell .ptr) 1 a71_ fun (x72_ : Option Addr) => cond (veqv (.pointer x72_) (.pointer x28_)) (M.deref x28_ fun a73_ =>
 M.store (a73_.add 6) [(.slice a63_ n64_ c65_)]
 (M.deref x.2.2.1 fun a74_ =>
 M.load (.cell .ptr) 1 a74_ fun (x75_ : Option Addr) =>
 M.deref x75_ fun a76_ =>
 M.load (.cell .slice) 1 (a76_.add 5) fun (x77_ : (Option Addr × Nat × Nat)) =>
 M.deref x.2.2.1 fun a79_ =>
 M.load (.cell .ptr) 1 a79_ fun (x80_ : Option Addr) =>
 f53c1 X L x x75_ a76_ x77_ ((x77_.2.1 : Nat) : Int) x80_)) M.stuck
def f53c3 (X : Task → M Value) (L : LoopI) (x : (Option Addr) × (Option Addr) × (Option Addr) × (Option Addr) × Unit) (x26_ : Option Addr) (x28_ : Option Addr) (x37_ : Option Addr) (a38_ : Addr) (x39_ : (Option Addr × Nat × Nat)) (a42_ : Option Addr) (n43_ : Nat) (c44_ : Nat) (r54_ : (Option Addr × Nat × Nat)) : M (Value) :=
 M.load (.cell .slice) 1 (a38_.add 6) fun (x55_ : (Option Addr × Nat × Nat)) => cond (veqv (.slice x55_.1 x55_.2.1 x55_.2.2) (.slice x39_.1 x39_.2.1 x39_.2.2)) (M.deref x.2.2.1 fun a56_ =>
 M.load (.cell .ptr) 1 a56_ fun (x57_ : Option Addr) => cond (veqv (.pointer x57_) (.pointer x37_)) (M.deref x.2.2.1 fun a58_ =>
 M.load (.cell .ptr) 1 a58_ fun (x59_ : Option Addr) => cond (veqv (.pointer x59_) (.pointer x28_)) (M.deref x.2.2.1 fun a60_ =>
 M.load (.cell .ptr) 1 a60_ fun (x61_ : Option Addr) => cond (veqv (.pointer x61_) (.pointer x26_)) (M.new (.cells (Row.ofList [(.slice r54_.1 r54_.2.1 r54_.2.2)]) 49 false (0, 0) false) fun b62_ =>
 M.append 49 1 24 x39_.1 x39_.2.1 x39_.2.2 (.slice (some (Addr.mk b62_ 0 none)) 1 1) fun a63_ n64_ c65_ =>
 M.deref x.2.2.1 fun a66_ =>
 M.load (.cell .ptr) 1 a66_ fun (x67_ : Option Addr) => cond (veqv (.pointer x67_) (.pointer x28_)) (M.deref x.2.2.1 fun a68_ =>
 M.load (.cell .ptr) 1 a68_ fun (x69_ : Option Addr) => cond (veqv (.pointer x69_) (.pointer x26_)) (M.deref x26_ fun a70_ =>
 M.store (a70_.add 5) [(.slice a42_ n43_ c44_)]
 (f53c2 X L x x28_ a63_ n64_ c65_)) M.stuck) M.stuck) M.stuck) M.stuck) M.stuck) M.stuck
def f53c4 (X : Task → M Value) (L : LoopI) (x : (Option Addr) × (Option Addr) × (Option Addr) × (Option Addr) × Unit) (x26_ : Option Addr) (x28_ : Option Addr) (x37_ : Option Addr) (a38_ : Addr) (x39_ : (Option Addr × Nat × Nat)) (x41_ : (Option Addr × Nat × Nat)) (a42_ : Option Addr) (n43_ : Nat) (c44_ : Nat) : M (Value) :=
 M.deref x.2.1 fun a45_ =>
 M.load (.cell .slice) 1 a45_ fun (x46_ : (Option Addr × Nat × Nat)) => cond (veqv (.slice x46_.1 x46_.2.1 x46_.2.2) (.slice x41_.1 x41_.2.1 x41_.2.2)) (M.load (.cell .slice) 1 (a38_.add 6) fun (x47_ : (Option Addr × Nat × Nat)) => cond (veqv (.slice x47_.1 x47_.2.1 x47_.2.2) (.slice x39_.1 x39_.2.1 x39_.2.2)) (M.deref x.2.2.1 fun a48_ =>
 M.load (.cell .ptr) 1 a48_ fun (x49_ : Option Addr) => cond (veqv (.pointer x49_) (.pointer x37_)) (M.deref x.2.2.1 fun a50_ =>
 M.load (.cell .ptr) 1 a50_ fun (x51_ : Option Addr) => cond (veqv (.pointer x51_) (.pointer x28_)) (M.deref x.2.2.1 fun a52_ =>
 M.load (.cell .ptr) 1 a52_ fun (x53_ : Option Addr) => cond (veqv (.pointer x53_) (.pointer x26_)) (M.callS (.one (.cell .slice)) (X (.call 57 [(.slice x41_.1 x41_.2.1 x41_.2.2)])) fun (r54_ : (Option Addr × Nat × Nat)) =>
 f53c3 X L x x26_ x28_ x37_ a38_ x39_ a42_ n43_ c44_ r54_) M.stuck) M.stuck) M.stuck) M.stuck) M.stuck
def f53c5 (X : Task → M Value) (L : LoopI) (x : (Option Addr) × (Option Addr) × (Option Addr) × (Option Addr) × Unit) (x26_ : Option Addr) (x28_ : Option Addr) (x32_ : (Option Addr × Nat × Nat)) (x34_ : Int × Bool × Int × Int × Unit) : M (Value) :=
 M.new (.cells (Row.ofList [(.int .i64 x34_.1), (.bool x34_.2.1), (.int .i64 x34_.2.2.1), (.int .i64 x34_.2.2.2.1)]) 58 false (0, 0) false) fun b35_ =>
 M.deref x.2.2.1 fun a36_ =>
 M.load (.cell .ptr) 1 a36_ fun (x37_ : Option Addr) =>
 M.deref x37_ fun a38_ =>
 M.load (.cell .slice) 1 (a38_.add 6) fun (x39_ : (Option Addr × Nat × Nat)) =>
 M.deref x.2.1 fun a40_ =>
 M.load (.cell .slice) 1 a40_ fun (x41_ : (Option Addr × Nat × Nat)) =>
 M.append 58 4 32 x32_.1 x32_.2.1 x32_.2.2 (.slice (some (Addr.mk b35_ 0 none)) 1 1) fun a42_ n43_ c44_ =>
 f53c4 X L x x26_ x28_ x37_ a38_ x39_ x41_ a42_ n43_ c44_
def f53c6 (X : Task → M Value) (L : LoopI) (x : (Option Addr) × (Option Addr) × (Option Addr) × (Option Addr) × Unit) : M (Value) :=
 M.deref x.2.2.1 fun a25_ =>
 M.load (.cell .ptr) 1 a25_ fun (x26_ : Option Addr) =>
 M.deref x.2.2.1 fun a27_ =>
 M.load (.cell .ptr) 1 a27_ fun (x28_ : Option Addr) =>
 M.deref x.2.2.1 fun a29_ =>
 M.load (.cell .ptr) 1 a29_ fun (x30_ : Option Addr) =>
 M.deref x30_ fun a31_ =>
 M.load (.cell .slice) 1 (a31_.add 5) fun (x32_ : (Option Addr × Nat × Nat)) =>
 M.deref x.1 fun a33_ =>
 M.load (.agg [(.int .i64), .bool, (.int .i64), (.int .i64)]) 4 a33_ fun (x34_ : Int × Bool × Int × Int × Unit) =>
 f53c5 X L x x26_ x28_ x32_ x34_
def f53c7 (X : Task → M Value) (L : LoopI) (x : (Option Addr) × (Option Addr) × (Option Addr) × (Option Addr) × Unit) (x7_ : Option Addr) (a8_ : Addr) (x9_ : Int) (x11_ : Option Addr) (a12_ : Addr) (x13_ : (Option Addr × Nat × Nat)) (v14_ : Int) (r15_ : Int) : M (Value) :=
 M.load (.cell .slice) 1 (a12_.add 5) fun (x16_ : (Option Addr × Nat × Nat)) => cond (veqv (.slice x16_.1 x16_.2.1 x16_.2.2) (.slice x13_.1 x13_.2.1 x13_.2.2)) (M.deref x.2.2.1 fun a17_ =>
 M.load (.cell .ptr) 1 a17_ fun (x18_ : Option Addr) => cond (veqv (.pointer x18_) (.pointer x11_)) (M.load (.cell (.int .i64)) 1 (a8_.add 4) fun (x19_ : Int) => cond (veqv (.int .i64 x19_) (.int .i64 x9_)) (M.deref x.2.2.1 fun a20_ =>
 M.load (.cell .ptr) 1 a20_ fun (x21_ : Option Addr) => cond (veqv (.pointer x21_) (.pointer x7_)) (M.callS (.tuple [(.cell (.int .u32)), (.cell (.int .i64))]) (X (.call 55 [(.int .i64 r15_), (.int .i64 x9_), (.int .i64 v14_)])) fun (r22_ : (Int) × (Int) × Unit) =>
 M.deref x.2.2.2.1 fun a23_ =>
 M.store a23_ [(.int .u32 r22_.1)]
 (M.ite (!(r22_.2.1 == 0))
 (M.pure (.int .i64 r22_.2.1))
 (f53c6 X L x))) M.stuck) M.stuck) M.stuck) M.stuck
def f53c8 (X : Task → M Value) (L : LoopI) (x : (Option Addr) × (Option Addr) × (Option Addr) × (Option Addr) × Unit) (x5_ : Option Addr) : M (Value) :=
 M.deref x.2.2.1 fun a6_ =>
 M.load (.cell .ptr) 1 a6_ fun (x7_ : Option Addr) =>
 M.deref x7_ fun a8_ =>
 M.load (.cell (.int .i64)) 1 (a8_.add 4) fun (x9_ : Int) =>
 M.deref x.2.2.1 fun a10_ =>
 M.load (.cell .ptr) 1 a10_ fun (x11_ : Option Addr) =>
 M.deref x11_ fun a12_ =>
 M.load (.cell .slice) 1 (a12_.add 5) fun (x13_ : (Option Addr × Nat × Nat)) =>
 M.callS (.one (.cell (.int .i64))) (X (.call 56 [(.pointer x5_)])) fun (r15_ : Int) =>
 f53c7 X L x x7_ a8_ x9_ x11_ a12_ x13_ ((x13_.2.1 : Nat) : Int) r15_
def f53c9 (X : Task → M Value) (L : LoopI) (x : (Option Addr) × (Option Addr) × (Option Addr) × (Option Addr) × Unit) (go3_ : (Unit) → M (Value)) : M (Value) :=
 M.deref x.2.2.1 fun a123_ =>
 M.load (.cell .ptr) 1 a123_ fun (x124_ : Option Addr) =>
 M.deref x124_ fun a125_ =>
 M.load (.cell .slice) 1 (a125_.add 2) fun (x126_ : (Option Addr × Nat × Nat)) =>
 M.deref x.2.2.1 fun a127_ =>
 M.load (.cell .ptr) 1 a127_ fun (x128_ : Option Addr) =>
 M.deref x128_ fun a129_ =>
 M.load (.cell (.int .i64)) 1 (a129_.add 4) fun (x130_ : Int) =>
 M.guard (decide (0 ≤ x130_) && decide (x130_ < ((x126_.2.1 : Nat) : Int)))
 (M.deref x126_.1 fun a131_ =>
 M.store (a131_.add ((Int.toNat x130_) * 1)) [(.int .u64 0)]
 (go3_ (())))
def f53c10 (X : Task → M Value) (L : LoopI) (x : (Option Addr) × (Option Addr) × (Option Addr) × (Option Addr) × Unit) (go3_ : (Unit) → M (Value)) (x105_ : Option Addr) (x107_ : Option Addr) (x113_ : Int) (a116_ : Addr) : M (Value) :=
 M.load (.cell .slice) 1 (a116_.add 3) fun (x117_ : (Option Addr × Nat × Nat)) =>
 M.guard (decide (0 ≤ 1) && decide (1 ≤ ((x117_.2.1 : Nat) : Int)))
 (let v118_ : Nat := (Int.toNat 1)
 M.deref x105_ fun a119_ =>
 M.store (a119_.add 4) [(.int .i64 x113_)]
 (M.deref x.2.2.1 fun a120_ =>
 M.load (.cell .ptr) 1 a120_ fun (x121_ : Option Addr) => cond (veqv (.pointer x121_) (.pointer x107_)) (M.deref x107_ fun a122_ =>
 M.store (a122_.add 3) [(.slice (x117_.1.map (·.add (v118_ * 1))) (x117_.2.1 - v118_) (x117_.2.2 - v118_))]
 (f53c9 X L x go3_)) M.stuck))
def f53c11 (X : Task → M Value) (L : LoopI) (x : (Option Addr) × (Option Addr) × (Option Addr) × (Option Addr) × Unit) (go3_ : (Unit) → M (Value)) (x105_ : Option Addr) (x107_ : Option Addr) : M (Value) :=
 M.deref x.2.2.1 fun a108_ =>
 M.load (.cell .ptr) 1 a108_ fun (x109_ : Option Addr) =>
 M.deref x109_ fun a110_ =>
 M.load (.cell .slice) 1 (a110_.add 3) fun (x111_ : (Option Addr × Nat × Nat)) =>
 M.guard (decide (0 ≤ 0) && decide (0 < ((x111_.2.1 : Nat) : Int)))
 (M.deref x111_.1 fun a112_ =>
 M.load (.cell (.int .i64)) 1 (a112_.add ((Int.toNat 0) * 1)) fun (x113_ : Int) =>
 M.deref x.2.2.1 fun a114_ =>
 M.load (.cell .ptr) 1 a114_ fun (x115_ : Option Addr) =>
 M.deref x115_ fun a116_ =>
 f53c10 X L x go3_ x105_ x107_ x113_ a116_)
def f53c12 (X : Task → M Value) (L : LoopI) (x : (Option Addr) × (Option Addr) × (Option Addr) × (Option Addr) × Unit) (go3_ : (Unit) → M (Value)) (a95_ : Addr) : M (Value) :=
 M.load (.cell (.int .i64)) 1 (a95_.add 4) fun (x96_ : Int) =>
 M.ite (decide (x96_ < 0))
 (M.deref x.2.2.1 fun a98_ =>
 M.load (.cell .ptr) 1 a98_ fun (x99_ : Option Addr) =>
 M.deref x99_ fun a100_ =>
 M.load (.cell .slice) 1 (a100_.add 3) fun (x101_ : (Option Addr × Nat × Nat)) =>
 M.ite (((x101_.2.1 : Nat) : Int) == 0)
 (M.pure (.int .i64 7))
 (M.deref x.2.2.1 fun a104_ =>
 M.load (.cell .ptr) 1 a104_ fun (x105_ : Option Addr) =>
 M.deref x.2.2.1 fun a106_ =>
 M.load (.cell .ptr) 1 a106_ fun (x107_ : Option Addr) =>
 f53c11 X L x go3_ x105_ x107_))
 (go3_ (()))
def f53c13 (X : Task → M Value) (L : LoopI) (x : (Option Addr) × (Option Addr) × (Option Addr) × (Option Addr) × Unit) : M (Value) :=
 M.join (fun (j0_ : (Bool) × Unit) =>
 M.ite j0_.1
 (M.pure (.int .i64 1))
 (M.join (fun (j2_ : Unit) =>
 M.deref x.2.2.1 fun a4_ =>
 M.load (.cell .ptr) 1 a4_ fun (x5_ : Option Addr) =>
 f53c8 X L x x5_) fun go3_ =>
 M.deref x.2.2.1 fun a93_ =>
 M.load (.cell .ptr) 1 a93_ fun (x94_ : Option Addr) =>
 M.deref x94_ fun a95_ =>
 f53c12 X L x go3_ a95_)) fun go1_ =>
 M.deref x.1 fun a132_ =>
 M.load (.agg [(.int .i64), .bool, (.int .i64), (.int .i64)]) 4 a132_ fun (x133_ : Int × Bool × Int × Int × Unit) =>
 M.callS (.one (.cell .bool)) (X (.call 54 [(.agg ⟨[(.int .i64 x133_.1), (.bool x133_.2.1), (.int .i64 x133_.2.2.1), (.int .i64 x133_.2.2.2.1)]⟩)])) fun (r134_ : Bool) =>
 M.ite (!r134_)
 (go1_ (true, ()))
 (M.deref x.2.1 fun a136_ =>
 M.load (.cell .slice) 1 a136_ fun (x137_ : (Option Addr × Nat × Nat)) =>
 go1_ ((!(((x137_.2.1 : Nat) : Int) == 112)), ()))
def f53 (X : Task → M Value) (L : LoopI) (x : (Option Addr) × (Option Addr) × (Option Addr) × (Option Addr) × Unit) : M Value :=
 f53c13 X L x

theorem e53 (X : Task → M Value) (L : LoopI) (x : (Option Addr) × (Option Addr) × (Option Addr) × (Option Addr) × Unit) : evBody CC { call := X, loop := L } 53 (shsInj [(.cell .ptr), (.cell .ptr), (.cell .ptr), (.cell .ptr)] x) = f53 X L x := by kernel_rfl

/-- hayrick/summary.May -/
def f54c0 (X : Task → M Value) (L : LoopI) (b0_ : Nat) (go2_ : ((Bool) × Unit) → M (Value)) (v10_ : Bool) : M (Value) :=
 M.ite v10_
 (go2_ (true, ()))
 (M.load (.cell (.int .i64)) 1 ((Addr.mk b0_ 0 none).add 0) fun (x11_ : Int) =>
 M.ite (decide (x11_ > 4))
 (go2_ (true, ()))
 (M.load (.cell (.int .i64)) 1 ((Addr.mk b0_ 0 none).add 2) fun (x13_ : Int) =>
 M.ite (decide (x13_ < 1))
 (go2_ (true, ()))
 (M.load (.cell (.int .i64)) 1 ((Addr.mk b0_ 0 none).add 2) fun (x15_ : Int) =>
 M.ite (decide (x15_ > 64))
 (go2_ (true, ()))
 (M.load (.cell (.int .i64)) 1 ((Addr.mk b0_ 0 none).add 3) fun (x17_ : Int) =>
 go2_ ((decide (x17_ < 0)), ())))))
def f54c1 (X : Task → M Value) (L : LoopI) (b0_ : Nat) : M (Value) :=
 M.join (fun (j1_ : (Bool) × Unit) =>
 M.ite j1_.1
 (M.pure (.bool false))
 (M.load (.cell (.int .i64)) 1 ((Addr.mk b0_ 0 none).add 0) fun (x3_ : Int) =>
 M.ite (x3_ == 1)
 (M.load (.cell (.int .i64)) 1 ((Addr.mk b0_ 0 none).add 3) fun (x5_ : Int) =>
 M.pure (.bool (decide (x5_ < 34))))
 (M.load (.cell (.int .i64)) 1 ((Addr.mk b0_ 0 none).add 3) fun (x7_ : Int) =>
 M.pure (.bool (x7_ == 0))))) fun go2_ =>
 M.load (.cell (.int .i64)) 1 ((Addr.mk b0_ 0 none).add 0) fun (x9_ : Int) =>
 f54c0 X L b0_ go2_ (decide (x9_ < 1))
def f54 (X : Task → M Value) (L : LoopI) (x : (Int × Bool × Int × Int × Unit) × Unit) : M Value :=
 M.new (.cells (Row.ofList [(.int .i64 x.1.1), (.bool x.1.2.1), (.int .i64 x.1.2.2.1), (.int .i64 x.1.2.2.2.1)]) 58 false (0, 0) false) fun b0_ =>
 f54c1 X L b0_

theorem e54 (X : Task → M Value) (L : LoopI) (x : (Int × Bool × Int × Int × Unit) × Unit) : evBody CC { call := X, loop := L } 54 (shsInj [(.agg [(.int .i64), .bool, (.int .i64), (.int .i64)])] x) = f54 X L x := by kernel_rfl

/-- hayrick/summary.Address -/
def f55c0 (X : Task → M Value) (L : LoopI) (x : (Int) × (Int) × (Int) × Unit) : M (Value) :=
 M.join (fun (j0_ : (Bool) × Unit) =>
 M.ite j0_.1
 (M.pure (.tuple ⟨[(.int .u32 0), (.int .i64 1)]⟩))
 (M.callS (.one (.cell (.int .i64))) (X (.call 67 [(.int .i64 x.1)])) fun (r4_ : Int) =>
 M.pure (.tuple ⟨[(.int .u32 (IntKind.u32.wrap (IntKind.i64.wrap ((IntKind.i64.wrap ((IntKind.i64.wrap ((IntKind.i64.wrap ((IntKind.i64.wrap (x.2.1 * 4)) * x.1)) + r4_)) + x.2.2.1)) + 1)))), (.int .i64 0)]⟩))) fun go1_ =>
 M.callS (.one (.cell .bool)) (X (.call 100 [(.int .i64 x.1)])) fun (r9_ : Bool) =>
 M.ite (!r9_)
 (go1_ (true, ()))
 (M.ite (decide (x.2.1 < 0))
 (go1_ (true, ()))
 (M.ite (decide (x.2.1 ≥ 128))
 (go1_ (true, ()))
 (M.ite (decide (x.2.2.1 < 0))
 (go1_ (true, ()))
 (M.callS (.one (.cell (.int .i64))) (X (.call 58 [(.int .i64 x.1)])) fun (r14_ : Int) =>
 go1_ ((decide (x.2.2.1 ≥ r14_)), ())))))
def f55 (X : Task → M Value) (L : LoopI) (x : (Int) × (Int) × (Int) × Unit) : M Value :=
 f55c0 X L x

theorem e55 (X : Task → M Value) (L : LoopI) (x : (Int) × (Int) × (Int) × Unit) : evBody CC { call := X, loop := L } 55 (shsInj [(.cell (.int .i64)), (.cell (.int .i64)), (.cell (.int .i64))] x) = f55 X L x := by kernel_rfl

/-- (*hayrick/logs.Log).k -/
def f56 (X : Task → M Value) (L : LoopI) (x : (Option Addr) × Unit) : M Value :=
 M.deref x.1 fun a0_ =>
 M.load (.cell .ptr) 1 (a0_.add 0) fun (x1_ : Option Addr) =>
 M.callS (.one (.agg [(.int .i64), (.int .i64), (.int .i64)])) (X (.call 74 [(.pointer x1_)])) fun (r2_ : Int × Int × Int × Unit) =>
 M.pure (.int .i64 r2_.1)

theorem e56 (X : Task → M Value) (L : LoopI) (x : (Option Addr) × Unit) : evBody CC { call := X, loop := L } 56 (shsInj [(.cell .ptr)] x) = f56 X L x := by kernel_rfl

/-- bytes.Clone -/
def f57 (X : Task → M Value) (L : LoopI) (x : ((Option Addr × Nat × Nat)) × Unit) : M Value :=
 M.ite x.1.1.isNone
 (M.pure (.slice none 0 0))
 (M.new (.cells (Row.ofList []) 5 false (0, 0) false) fun b0_ =>
 M.append 5 1 1 (some (Addr.mk b0_ 0 none)) 0 0 (.slice x.1.1 x.1.2.1 x.1.2.2) fun a1_ n2_ c3_ =>
 M.pure (.slice a1_ n2_ c3_))

theorem e57 (X : Task → M Value) (L : LoopI) (x : ((Option Addr × Nat × Nat)) × Unit) : evBody CC { call := X, loop := L } 57 (shsInj [(.cell .slice)] x) = f57 X L x := by kernel_rfl

/-- hayrick/summary.Cap -/
def f58 (X : Task → M Value) (L : LoopI) (x : (Int) × Unit) : M Value :=
 M.callS (.one (.cell .bool)) (X (.call 100 [(.int .i64 x.1)])) fun (r0_ : Bool) =>
 M.ite (!r0_)
 (M.pure (.int .i64 0))
 (M.callS (.one (.cell (.int .i64))) (X (.call 67 [(.int .i64 x.1)])) fun (r3_ : Int) =>
 M.pure (.int .i64 (IntKind.i64.wrap ((IntKind.i64.wrap (4 * x.1)) - r3_))))

theorem e58 (X : Task → M Value) (L : LoopI) (x : (Int) × Unit) : evBody CC { call := X, loop := L } 58 (shsInj [(.cell (.int .i64))] x) = f58 X L x := by kernel_rfl

/-- (*hayrick/logs.Log).out -/
def f59c0 (X : Task → M Value) (L : LoopI) (v9_ : Int) (b10_ : Nat) (x13_ : (Option Addr × Nat × Nat)) (s15_ : (Int) × (Int) × Unit) : M (((Int) × (Int) × Unit) ⊕ ((Unit) ⊕ (Unit))) :=
 M.guard (decide (0 ≤ s15_.2.1) && decide (s15_.2.1 < ((x13_.2.1 : Nat) : Int)))
 (M.deref x13_.1 fun a17_ =>
 M.load (.cell .slice) 1 (a17_.add ((Int.toNat s15_.2.1) * 1)) fun (x18_ : (Option Addr × Nat × Nat)) =>
 M.guard (decide (0 ≤ s15_.1) && decide (s15_.1 ≤ (((Int.toNat v9_) : Nat) : Int)))
 (let v19_ : Nat := (Int.toNat s15_.1)
 M.copy 1 (some ((Addr.mk b10_ 0 none).add (v19_ * 1))) ((Int.toNat v9_) - v19_) (.slice x18_.1 x18_.2.1 x18_.2.2) fun m20_ =>
 M.pure (.inl ((IntKind.i64.wrap (s15_.1 + ((m20_ : Nat) : Int))), (IntKind.i64.wrap (s15_.2.1 + 1)), ()))))
def f59c1 (X : Task → M Value) (L : LoopI) (x : (Option Addr) × Unit) (x34_ : (Option Addr × Nat × Nat)) (x36_ : Int) (x38_ : Int) : M (Value) :=
 M.guard (decide (0 ≤ x36_) && decide (x36_ < ((x34_.2.1 : Nat) : Int)))
 (M.deref x34_.1 fun a39_ =>
 M.store (a39_.add ((Int.toNat x36_) * 1)) [(.int .u64 x38_)]
 (M.deref x.1 fun a40_ =>
 M.load (.cell (.int .u64)) 1 (a40_.add 1) fun (x41_ : Int) =>
 M.deref x.1 fun a43_ =>
 M.store (a43_.add 1) [(.int .u64 (IntKind.u64.wrap (x41_ + 1)))]
 (M.deref x.1 fun a44_ =>
 M.store (a44_.add 4) [(.int .i64 (-1))]
 (M.deref x.1 fun a45_ =>
 M.store (a45_.add 5) [(.slice none 0 0)]
 (M.deref x.1 fun a46_ =>
 M.store (a46_.add 6) [(.slice none 0 0)]
 (M.pure (.int .i64 0)))))))
def f59c2 (X : Task → M Value) (L : LoopI) (x : (Option Addr) × Unit) (v9_ : Int) (b10_ : Nat) (x25_ : Option Addr) (x27_ : Int) (x29_ : Int) : M (Value) :=
 M.callS (.one (.cell (.int .i64))) (X (.call 102 [(.pointer x25_), (.int .i64 x27_), (.int .u64 x29_), (.slice (some (Addr.mk b10_ 0 none)) (Int.toNat v9_) (Int.toNat v9_))])) fun (r30_ : Int) =>
 M.ite (!(r30_ == 0))
 (M.callS (.one (.cell (.int .i64))) (X (.call 62 [(.pointer x.1), (.int .i64 r30_)])) fun (r32_ : Int) =>
 M.pure (.int .i64 r32_))
 (M.deref x.1 fun a33_ =>
 M.load (.cell .slice) 1 (a33_.add 2) fun (x34_ : (Option Addr × Nat × Nat)) =>
 M.deref x.1 fun a35_ =>
 M.load (.cell (.int .i64)) 1 (a35_.add 4) fun (x36_ : Int) =>
 M.deref x.1 fun a37_ =>
 M.load (.cell (.int .u64)) 1 (a37_.add 1) fun (x38_ : Int) =>
 f59c1 X L x x34_ x36_ x38_)
def f59c3 (X : Task → M Value) (L : LoopI) (x : (Option Addr) × Unit) (v9_ : Int) (b10_ : Nat) (m11_ : Nat) (x13_ : (Option Addr × Nat × Nat)) (v14_ : Int) : M (Value) :=
 M.bind (L (σ := (Int) × (Int) × Unit) (ρ := (Unit) ⊕ (Unit)) (fun s15_ =>
 M.ite (decide (s15_.2.1 < v14_))
 (f59c0 X L v9_ b10_ x13_ s15_)
 (M.pure (.inr (.inl (()))))) (((m11_ : Nat) : Int), 0, ())) <| M.sum (fun (j23_ : Unit) =>
 M.deref x.1 fun a24_ =>
 M.load (.cell .ptr) 1 (a24_.add 0) fun (x25_ : Option Addr) =>
 M.deref x.1 fun a26_ =>
 M.load (.cell (.int .i64)) 1 (a26_.add 4) fun (x27_ : Int) =>
 M.deref x.1 fun a28_ =>
 M.load (.cell (.int .u64)) 1 (a28_.add 1) fun (x29_ : Int) =>
 f59c2 X L x v9_ b10_ x25_ x27_ x29_) (fun _ => M.stuck)
def f59c4 (X : Task → M Value) (L : LoopI) (x : (Option Addr) × Unit) (r3_ : Int) (r6_ : ((Option Addr × Nat × Nat)) × (Int) × Unit) (v7_ : Bool) : M (Value) :=
 M.ite v7_
 (M.callS (.one (.cell (.int .i64))) (X (.call 62 [(.pointer x.1), (.int .i64 r6_.2.1)])) fun (r8_ : Int) =>
 M.pure (.int .i64 r8_))
 (let v9_ : Int := IntKind.i64.wrap (r3_ * 448)
 M.guard (decide (0 ≤ v9_) && decide (v9_ ≤ v9_) && decide ((1 : Int) * v9_ ≤ 2 ^ 48))
 (M.new (.cells (Row.rep [(.int .u8 0)] (Int.toNat v9_)) 5 false (0, 0) false) fun b10_ =>
 M.copy 1 (some (Addr.mk b10_ 0 none)) (Int.toNat v9_) (.slice r6_.1.1 r6_.1.2.1 r6_.1.2.2) fun m11_ =>
 M.deref x.1 fun a12_ =>
 M.load (.cell .slice) 1 (a12_.add 6) fun (x13_ : (Option Addr × Nat × Nat)) =>
 f59c3 X L x v9_ b10_ m11_ x13_ ((x13_.2.1 : Nat) : Int)))
def f59c5 (X : Task → M Value) (L : LoopI) (x : (Option Addr) × Unit) (a0_ : Addr) : M (Value) :=
 M.load (.cell (.int .i64)) 1 (a0_.add 4) fun (x1_ : Int) =>
 M.ite (decide (x1_ < 0))
 (M.pure (.int .i64 0))
 (M.callS (.one (.cell (.int .i64))) (X (.call 56 [(.pointer x.1)])) fun (r3_ : Int) =>
 M.deref x.1 fun a4_ =>
 M.load (.cell .slice) 1 (a4_.add 5) fun (x5_ : (Option Addr × Nat × Nat)) =>
 M.callS (.tuple [(.cell .slice), (.cell (.int .i64))]) (X (.call 101 [(.int .i64 r3_), (.slice x5_.1 x5_.2.1 x5_.2.2)])) fun (r6_ : ((Option Addr × Nat × Nat)) × (Int) × Unit) =>
 f59c4 X L x r3_ r6_ (!(r6_.2.1 == 0)))
def f59 (X : Task → M Value) (L : LoopI) (x : (Option Addr) × Unit) : M Value :=
 M.deref x.1 fun a0_ =>
 f59c5 X L x a0_

theorem e59 (X : Task → M Value) (L : LoopI) (x : (Option Addr) × Unit) : evBody CC { call := X, loop := L } 59 (shsInj [(.cell .ptr)] x) = f59 X L x := by kernel_rfl

/-- bytes.Repeat -/
def f60c0 (X : Task → M Value) (L : LoopI) (j14_ : (Int) × Unit) (b16_ : Nat) (v17_ : Nat) (v18_ : Nat) (s20_ : (Int) × Unit) : M (((Int) × Unit) ⊕ ((Unit) ⊕ (Unit))) :=
 let v22_ : Int := (if j14_.1 < s20_.1 then j14_.1 else s20_.1)
 M.guard (decide (0 ≤ s20_.1) && decide (s20_.1 ≤ (((v18_ - 0) : Nat) : Int)))
 (let v23_ : Nat := (Int.toNat s20_.1)
 M.guard (decide (0 ≤ v22_) && decide (v22_ ≤ (((v17_ - 0) : Nat) : Int)))
 (M.copy 1 (some (((Addr.mk b16_ 0 none).add (0 * 1)).add (v23_ * 1))) ((v18_ - 0) - v23_) (.slice (some (((Addr.mk b16_ 0 none).add (0 * 1)).add (0 * 1))) ((Int.toNat v22_) - 0) ((v17_ - 0) - 0)) fun m25_ =>
 M.pure (.inl ((IntKind.i64.wrap (s20_.1 + ((m25_ : Nat) : Int))), ()))))
def f60c1 (X : Task → M Value) (L : LoopI) (x : ((Option Addr × Nat × Nat)) × (Int) × Unit) (v10_ : Int) (j14_ : (Int) × Unit) (b16_ : Nat) : M (Value) :=
 M.guard (decide (0 ≤ v10_) && decide (v10_ ≤ (((Int.toNat v10_) : Nat) : Int)))
 (let v17_ : Nat := (Int.toNat v10_)
 M.guard (decide (0 ≤ v10_) && decide (v10_ ≤ ((v17_ : Nat) : Int)))
 (let v18_ : Nat := (Int.toNat v10_)
 M.copy 1 (some ((Addr.mk b16_ 0 none).add (0 * 1))) (v18_ - 0) (.slice x.1.1 x.1.2.1 x.1.2.2) fun m19_ =>
 M.bind (L (σ := (Int) × Unit) (ρ := (Unit) ⊕ (Unit)) (fun s20_ =>
 M.ite (decide (s20_.1 < v10_))
 (f60c0 X L j14_ b16_ v17_ v18_ s20_)
 (M.pure (.inr (.inl (()))))) (((m19_ : Nat) : Int), ())) <| M.sum (fun (j27_ : Unit) =>
 M.pure (.slice (some ((Addr.mk b16_ 0 none).add (0 * 1))) (v18_ - 0) (v17_ - 0))) (fun _ => M.stuck)))
def f60c2 (X : Task → M Value) (L : LoopI) (x : ((Option Addr × Nat × Nat)) × (Int) × Unit) (v10_ : Int) : M (Value) :=
 M.join (fun (j14_ : (Int) × Unit) =>
 cond (decide (0 ≤ v10_) && decide (v10_ ≤ 2 ^ 48)) (M.new (.cells (Row.full undef (Int.toNat v10_)) 5 true (0, 0) false) fun b16_ =>
 f60c1 X L x v10_ j14_ b16_) M.stuck) fun go15_ =>
 M.ite (decide (v10_ > 8192))
 (let v29_ : Int := ((x.1.2.1 : Nat) : Int)
 M.guard (!(decide (v29_ = 0)))
 (let v32_ : Int := IntKind.i64.wrap ((IntKind.i64.wrap ((8192 : Int).tdiv v29_)) * ((x.1.2.1 : Nat) : Int))
 M.ite (v32_ == 0)
 (go15_ (((x.1.2.1 : Nat) : Int), ()))
 (go15_ (v32_, ()))))
 (go15_ (v10_, ()))
def f60c3 (X : Task → M Value) (L : LoopI) (x : ((Option Addr × Nat × Nat)) × (Int) × Unit) (v5_ : Int) (v6_ : Int) : M (Value) :=
 M.callS (.tuple [(.cell (.int .u64)), (.cell (.int .u64))]) (X (.call 103 [(.int .u64 v5_), (.int .u64 v6_)])) fun (r7_ : (Int) × (Int) × Unit) =>
 M.join (fun (j8_ : Unit) =>
 M.ite (((x.1.2.1 : Nat) : Int) == 0)
 (M.new (.cells (Row.ofList []) 5 false (0, 0) false) fun b13_ =>
 M.pure (.slice (some (Addr.mk b13_ 0 none)) 0 0))
 (f60c2 X L x (IntKind.i64.wrap r7_.2.1))) fun go9_ =>
 M.join (fun (j35_ : (Bool) × Unit) =>
 M.ite j35_.1
 (M.throw (.iface 9 (.string st0)))
 (go9_ (()))) fun go36_ =>
 M.ite (decide (r7_.1 > 0))
 (go36_ (true, ()))
 (go36_ ((decide (r7_.2.1 > 9223372036854775807)), ()))
def f60 (X : Task → M Value) (L : LoopI) (x : ((Option Addr × Nat × Nat)) × (Int) × Unit) : M Value :=
 M.ite (x.2.1 == 0)
 (M.new (.cells (Row.ofList []) 5 false (0, 0) false) fun b1_ =>
 M.pure (.slice (some (Addr.mk b1_ 0 none)) 0 0))
 (M.join (fun (j2_ : Unit) =>
 f60c3 X L x (IntKind.u64.wrap ((x.1.2.1 : Nat) : Int)) (IntKind.u64.wrap x.2.1)) fun go3_ =>
 M.ite (decide (x.2.1 < 0))
 (M.throw (.iface 9 (.string st1)))
 (go3_ (())))

theorem e60 (X : Task → M Value) (L : LoopI) (x : ((Option Addr × Nat × Nat)) × (Int) × Unit) : evBody CC { call := X, loop := L } 60 (shsInj [(.cell .slice), (.cell (.int .i64))] x) = f60 X L x := by kernel_rfl

/-- (*hayrick/logs.Log).Sync$1 -/
def f61c0 (X : Task → M Value) (L : LoopI) (x : (Option Addr) × Unit) (x5_ : Option Addr) (x9_ : Option Addr) : M (Value) :=
 M.callS (.one (.cell .ptr)) (X (.call 28 [(.pointer x9_)])) fun (r10_ : Option Addr) =>
 M.deref x.1 fun a11_ =>
 M.load (.cell .ptr) 1 a11_ fun (x12_ : Option Addr) => cond (veqv (.pointer x12_) (.pointer x5_)) (M.callS (.one (.cell (.int .i64))) (X (.call 63 [(.pointer r10_)])) fun (r13_ : Int) =>
 M.deref x.1 fun a14_ =>
 M.load (.cell .ptr) 1 a14_ fun (x15_ : Option Addr) => cond (veqv (.pointer x15_) (.pointer x5_)) (M.callS (.one (.cell (.int .i64))) (X (.call 62 [(.pointer x5_), (.int .i64 r13_)])) fun (r16_ : Int) =>
 M.pure (.int .i64 r16_)) M.stuck) M.stuck
def f61 (X : Task → M Value) (L : LoopI) (x : (Option Addr) × Unit) : M Value :=
 M.deref x.1 fun a0_ =>
 M.load (.cell .ptr) 1 a0_ fun (x1_ : Option Addr) =>
 M.callS (.one (.cell (.int .i64))) (X (.call 59 [(.pointer x1_)])) fun (r2_ : Int) =>
 M.ite (!(r2_ == 0))
 (M.pure (.int .i64 r2_))
 (M.deref x.1 fun a4_ =>
 M.load (.cell .ptr) 1 a4_ fun (x5_ : Option Addr) =>
 M.deref x.1 fun a6_ =>
 M.load (.cell .ptr) 1 a6_ fun (x7_ : Option Addr) =>
 M.deref x7_ fun a8_ =>
 M.load (.cell .ptr) 1 (a8_.add 0) fun (x9_ : Option Addr) =>
 f61c0 X L x x5_ x9_)

theorem e61 (X : Task → M Value) (L : LoopI) (x : (Option Addr) × Unit) : evBody CC { call := X, loop := L } 61 (shsInj [(.cell .ptr)] x) = f61 X L x := by kernel_rfl

/-- (*hayrick/logs.Log).sure -/
def f62 (X : Task → M Value) (L : LoopI) (x : (Option Addr) × (Int) × Unit) : M Value :=
 M.join (fun (j0_ : Unit) =>
 M.pure (.int .i64 x.2.1)) fun go1_ =>
 M.deref x.1 fun a2_ =>
 M.load (.cell .bool) 1 (a2_.add 7) fun (x3_ : Bool) =>
 M.ite x3_
 (M.deref x.1 fun a4_ =>
 M.store (a4_.add 7) [(.bool true)]
 (go1_ (())))
 (M.deref x.1 fun a6_ =>
 M.store (a6_.add 7) [(.bool (!(x.2.1 == 0)))]
 (go1_ (())))

theorem e62 (X : Task → M Value) (L : LoopI) (x : (Option Addr) × (Int) × Unit) : evBody CC { call := X, loop := L } 62 (shsInj [(.cell .ptr), (.cell (.int .i64))] x) = f62 X L x := by kernel_rfl

/-- (*hayrick/array.Array).Barrier -/
def f63c0 (X : Task → M Value) (L : LoopI) (x : (Option Addr) × Unit) (x5_ : (Option Addr × Nat × Nat)) (s7_ : (Int) × Unit) : M (((Int) × Unit) ⊕ ((Unit) ⊕ (Unit))) :=
 M.guard (decide (0 ≤ s7_.1) && decide (s7_.1 < ((x5_.2.1 : Nat) : Int)))
 (M.deref x5_.1 fun a9_ =>
 M.load .raw 66 (a9_.add ((Int.toNat s7_.1) * 66)) fun (x10_ : List Value) =>
 M.new (.cells (Row.ofList (zc 185)) 185 false (0, 0) false) fun b11_ =>
 cond (Nat.beq x10_.length 66) (M.store (Addr.mk b11_ 0 none) x10_
 (M.load .raw 66 (Addr.mk b11_ 0 none) fun (x12_ : List Value) =>
 M.callS (.tuple []) (X (.call 106 [(.pointer x.1), (.agg ⟨x12_⟩)])) fun (r13_ : Unit) =>
 M.pure (.inl ((IntKind.i64.wrap (s7_.1 + 1)), ())))) M.stuck)
def f63c1 (X : Task → M Value) (L : LoopI) (x : (Option Addr) × Unit) : M (Value) :=
 M.join (fun (j2_ : (Bool) × Unit) =>
 M.ite j2_.1
 (M.pure (.int .i64 8))
 (M.deref x.1 fun a4_ =>
 M.load (.cell .slice) 1 (a4_.add 2) fun (x5_ : (Option Addr × Nat × Nat)) =>
 M.bind (L (σ := (Int) × Unit) (ρ := (Unit) ⊕ (Unit)) (fun s7_ =>
 M.ite (decide (s7_.1 < ((x5_.2.1 : Nat) : Int)))
 (f63c0 X L x x5_ s7_)
 (M.pure (.inr (.inl (()))))) (0, ())) <| M.sum (fun (j15_ : Unit) =>
 M.deref x.1 fun a16_ =>
 M.store (a16_.add 2) [(.slice none 0 0)]
 (M.pure (.int .i64 0))) (fun _ => M.stuck))) fun go3_ =>
 M.deref x.1 fun a17_ =>
 M.load (.cell .bool) 1 (a17_.add 4) fun (x18_ : Bool) =>
 M.ite x18_
 (go3_ (true, ()))
 (M.callS (.one (.cell .bool)) (X (.call 105 [(.pointer x.1)])) fun (r19_ : Bool) =>
 go3_ (r19_, ()))
def f63 (X : Task → M Value) (L : LoopI) (x : (Option Addr) × Unit) : M Value :=
 M.join (fun (j0_ : (Bool) × Unit) =>
 M.ite j0_.1
 (M.pure (.int .i64 2))
 (f63c1 X L x)) fun go1_ =>
 M.eqPtr x.1 none fun (q20_ : Bool) =>
 M.ite q20_
 (go1_ (true, ()))
 (M.deref x.1 fun a21_ =>
 M.load (.cell (.int .i64)) 1 (a21_.add 0) fun (x22_ : Int) =>
 go1_ ((x22_ == 0), ()))

theorem e63 (X : Task → M Value) (L : LoopI) (x : (Option Addr) × Unit) : evBody CC { call := X, loop := L } 63 (shsInj [(.cell .ptr)] x) = f63 X L x := by kernel_rfl

/-- (*hayrick/logs.Log).Block$1 -/
def f64c0 (X : Task → M Value) (L : LoopI) (x : (Option Addr) × (Option Addr) × (Option Addr) × Unit) (r7_ : (Int) × (Int) × (Int) × Unit) (a14_ : Addr) : M (Value) :=
 M.load (.cell .slice) 1 (a14_.add 6) fun (x15_ : (Option Addr × Nat × Nat)) =>
 M.guard (decide (0 ≤ r7_.2.1) && decide (r7_.2.1 < ((x15_.2.1 : Nat) : Int)))
 (M.deref x15_.1 fun a16_ =>
 M.load (.cell .slice) 1 (a16_.add ((Int.toNat r7_.2.1) * 1)) fun (x17_ : (Option Addr × Nat × Nat)) =>
 M.callS (.one (.cell .slice)) (X (.call 57 [(.slice x17_.1 x17_.2.1 x17_.2.2)])) fun (r18_ : (Option Addr × Nat × Nat)) =>
 M.deref x.2.2.1 fun a19_ =>
 M.store a19_ [(.slice r18_.1 r18_.2.1 r18_.2.2)]
 (M.pure (.int .i64 0)))
def f64c1 (X : Task → M Value) (L : LoopI) (x : (Option Addr) × (Option Addr) × (Option Addr) × Unit) (r24_ : ((Option Addr × Nat × Nat)) × (Int) × Unit) (v31_ : Int) : M (Value) :=
 let v32_ : Int := IntKind.i64.wrap (v31_ + 112)
 M.guard (decide (0 ≤ v32_) && decide (v32_ ≤ ((r24_.1.2.2 : Nat) : Int)))
 (let v33_ : Nat := (Int.toNat v32_)
 M.guard (decide (0 ≤ v31_) && decide (v31_ ≤ ((v33_ : Nat) : Int)))
 (let v34_ : Nat := (Int.toNat v31_)
 M.callS (.one (.cell .slice)) (X (.call 57 [(.slice (r24_.1.1.map (·.add (v34_ * 1))) (v33_ - v34_) (r24_.1.2.2 - v34_))])) fun (r35_ : (Option Addr × Nat × Nat)) =>
 M.deref x.2.2.1 fun a36_ =>
 M.store a36_ [(.slice r35_.1 r35_.2.1 r35_.2.2)]
 (M.pure (.int .i64 0))))
def f64c2 (X : Task → M Value) (L : LoopI) (x : (Option Addr) × (Option Addr) × (Option Addr) × Unit) (r7_ : (Int) × (Int) × (Int) × Unit) (x23_ : Option Addr) : M (Value) :=
 M.callS (.tuple [(.cell .slice), (.cell (.int .i64))]) (X (.call 66 [(.pointer x23_), (.int .i64 r7_.1)])) fun (r24_ : ((Option Addr × Nat × Nat)) × (Int) × Unit) =>
 M.ite (!(r24_.2.1 == 0))
 (M.pure (.int .i64 r24_.2.1))
 (M.deref x.1 fun a26_ =>
 M.load (.cell .ptr) 1 a26_ fun (x27_ : Option Addr) =>
 M.callS (.one (.cell (.int .i64))) (X (.call 56 [(.pointer x27_)])) fun (r28_ : Int) =>
 M.callS (.one (.cell (.int .i64))) (X (.call 67 [(.int .i64 r28_)])) fun (r29_ : Int) =>
 f64c1 X L x r24_ (IntKind.i64.wrap ((IntKind.i64.wrap (r29_ + r7_.2.1)) * 112)))
def f64c3 (X : Task → M Value) (L : LoopI) (x : (Option Addr) × (Option Addr) × (Option Addr) × Unit) (r7_ : (Int) × (Int) × (Int) × Unit) (go21_ : ((Bool) × Unit) → M (Value)) (x38_ : Option Addr) : M (Value) :=
 M.deref x38_ fun a39_ =>
 M.load (.cell (.int .i64)) 1 (a39_.add 4) fun (x40_ : Int) =>
 M.ite (r7_.1 == x40_)
 (go21_ (true, ()))
 (M.deref x.1 fun a42_ =>
 M.load (.cell .ptr) 1 a42_ fun (x43_ : Option Addr) =>
 M.deref x43_ fun a44_ =>
 M.load (.cell .slice) 1 (a44_.add 2) fun (x45_ : (Option Addr × Nat × Nat)) =>
 M.guard (decide (0 ≤ r7_.1) && decide (r7_.1 < ((x45_.2.1 : Nat) : Int)))
 (M.deref x45_.1 fun a46_ =>
 M.load (.cell (.int .u64)) 1 (a46_.add ((Int.toNat r7_.1) * 1)) fun (x47_ : Int) =>
 go21_ ((x47_ == 0), ())))
def f64c4 (X : Task → M Value) (L : LoopI) (x : (Option Addr) × (Option Addr) × (Option Addr) × Unit) (r7_ : (Int) × (Int) × (Int) × Unit) : M (Value) :=
 M.join (fun (j10_ : (Bool) × Unit) =>
 M.ite j10_.1
 (M.deref x.1 fun a12_ =>
 M.load (.cell .ptr) 1 a12_ fun (x13_ : Option Addr) =>
 M.deref x13_ fun a14_ =>
 f64c0 X L x r7_ a14_)
 (M.join (fun (j20_ : (Bool) × Unit) =>
 M.ite j20_.1
 (M.pure (.int .i64 6))
 (M.deref x.1 fun a22_ =>
 M.load (.cell .ptr) 1 a22_ fun (x23_ : Option Addr) =>
 f64c2 X L x r7_ x23_)) fun go21_ =>
 M.deref x.1 fun a37_ =>
 M.load (.cell .ptr) 1 a37_ fun (x38_ : Option Addr) =>
 f64c3 X L x r7_ go21_ x38_)) fun go11_ =>
 M.deref x.1 fun a49_ =>
 M.load (.cell .ptr) 1 a49_ fun (x50_ : Option Addr) =>
 M.deref x50_ fun a51_ =>
 M.load (.cell (.int .i64)) 1 (a51_.add 4) fun (x52_ : Int) =>
 M.ite (r7_.1 == x52_)
 (M.deref x.1 fun a54_ =>
 M.load (.cell .ptr) 1 a54_ fun (x55_ : Option Addr) =>
 M.deref x55_ fun a56_ =>
 M.load (.cell .slice) 1 (a56_.add 6) fun (x57_ : (Option Addr × Nat × Nat)) =>
 go11_ ((decide (r7_.2.1 < ((x57_.2.1 : Nat) : Int))), ()))
 (go11_ (false, ()))
def f64c5 (X : Task → M Value) (L : LoopI) (x : (Option Addr) × (Option Addr) × (Option Addr) × Unit) (x3_ : Int) (r4_ : Int) : M (Value) :=
 M.deref x.2.1 fun a5_ =>
 M.load (.cell (.int .u32)) 1 a5_ fun (x6_ : Int) => cond (veqv (.int .u32 x6_) (.int .u32 x3_)) (M.callS (.tuple [(.cell (.int .i64)), (.cell (.int .i64)), (.cell (.int .i64))]) (X (.call 65 [(.int .i64 r4_), (.int .u32 x3_)])) fun (r7_ : (Int) × (Int) × (Int) × Unit) =>
 M.join (fun (j8_ : (Bool) × Unit) =>
 M.ite j8_.1
 (M.pure (.int .i64 6))
 (f64c4 X L x r7_)) fun go9_ =>
 M.ite (!(r7_.2.2.1 == 0))
 (go9_ (true, ()))
 (M.deref x.1 fun a61_ =>
 M.load (.cell .ptr) 1 a61_ fun (x62_ : Option Addr) =>
 M.deref x62_ fun a63_ =>
 M.load (.cell .slice) 1 (a63_.add 2) fun (x64_ : (Option Addr × Nat × Nat)) =>
 go9_ ((decide (r7_.1 ≥ ((x64_.2.1 : Nat) : Int))), ()))) M.stuck
def f64 (X : Task → M Value) (L : LoopI) (x : (Option Addr) × (Option Addr) × (Option Addr) × Unit) : M Value :=
 M.deref x.1 fun a0_ =>
 M.load (.cell .ptr) 1 a0_ fun (x1_ : Option Addr) =>
 M.deref x.2.1 fun a2_ =>
 M.load (.cell (.int .u32)) 1 a2_ fun (x3_ : Int) =>
 M.callS (.one (.cell (.int .i64))) (X (.call 56 [(.pointer x1_)])) fun (r4_ : Int) =>
 f64c5 X L x x3_ r4_

theorem e64 (X : Task → M Value) (L : LoopI) (x : (Option Addr) × (Option Addr) × (Option Addr) × Unit) : evBody CC { call := X, loop := L } 64 (shsInj [(.cell .ptr), (.cell .ptr), (.cell .ptr)] x) = f64 X L x := by kernel_rfl

/-- hayrick/summary.Where -/
def f65c0 (X : Task → M Value) (L : LoopI) (x : (Int) × (Int) × Unit) (v6_ : Int) (v8_ : Int) (v9_ : Int) : M (Value) :=
 M.guard (!(decide (v9_ = 0)))
 (let v10_ : Int := (v8_ : Int).tmod v9_
 M.join (fun (j11_ : (Bool) × Unit) =>
 M.ite j11_.1
 (M.pure (.tuple ⟨[(.int .i64 0), (.int .i64 0), (.int .i64 6)]⟩))
 (M.callS (.one (.cell (.int .i64))) (X (.call 67 [(.int .i64 x.1)])) fun (r13_ : Int) =>
 M.pure (.tuple ⟨[(.int .i64 v6_), (.int .i64 (IntKind.i64.wrap (v10_ - r13_))), (.int .i64 0)]⟩))) fun go12_ =>
 M.ite (decide (v6_ ≥ 128))
 (go12_ (true, ()))
 (M.callS (.one (.cell (.int .i64))) (X (.call 67 [(.int .i64 x.1)])) fun (r16_ : Int) =>
 go12_ ((decide (v10_ < r16_)), ())))
def f65c1 (X : Task → M Value) (L : LoopI) (x : (Int) × (Int) × Unit) : M (Value) :=
 M.callS (.one (.cell .bool)) (X (.call 100 [(.int .i64 x.1)])) fun (r0_ : Bool) =>
 M.ite (!r0_)
 (M.pure (.tuple ⟨[(.int .i64 0), (.int .i64 0), (.int .i64 1)]⟩))
 (M.ite (x.2.1 == 0)
 (M.pure (.tuple ⟨[(.int .i64 0), (.int .i64 0), (.int .i64 6)]⟩))
 (let v5_ : Int := IntKind.i64.wrap (4 * x.1)
 M.guard (!(decide (v5_ = 0)))
 (f65c0 X L x (IntKind.i64.wrap (((IntKind.i64.wrap (IntKind.u32.wrap (x.2.1 - 1))) : Int).tdiv v5_)) (IntKind.i64.wrap (IntKind.u32.wrap (x.2.1 - 1))) (IntKind.i64.wrap (4 * x.1)))))
def f65 (X : Task → M Value) (L : LoopI) (x : (Int) × (Int) × Unit) : M Value :=
 f65c1 X L x

theorem e65 (X : Task → M Value) (L : LoopI) (x : (Int) × (Int) × Unit) : evBody CC { call := X, loop := L } 65 (shsInj [(.cell (.int .i64)), (.cell (.int .u32))] x) = f65 X L x := by kernel_rfl

/-- (*hayrick/logs.Log).segment -/
def f66c0 (X : Task → M Value) (L : LoopI) (x : (Option Addr) × (Int) × Unit) (x1_ : Option Addr) (a2_ : Addr) : M (Value) :=
 M.load (.cell .slice) 1 (a2_.add 2) fun (x3_ : (Option Addr × Nat × Nat)) =>
 M.guard (decide (0 ≤ x.2.1) && decide (x.2.1 < ((x3_.2.1 : Nat) : Int)))
 (M.deref x3_.1 fun a4_ =>
 M.load (.cell (.int .u64)) 1 (a4_.add ((Int.toNat x.2.1) * 1)) fun (x5_ : Int) =>
 M.callS (.tuple [(.cell .slice), (.cell (.int .i64))]) (X (.call 107 [(.pointer x1_), (.int .i64 x.2.1), (.int .u64 x5_)])) fun (r6_ : ((Option Addr × Nat × Nat)) × (Int) × Unit) =>
 M.pure (.tuple ⟨[(.slice r6_.1.1 r6_.1.2.1 r6_.1.2.2), (.int .i64 r6_.2.1)]⟩))
def f66 (X : Task → M Value) (L : LoopI) (x : (Option Addr) × (Int) × Unit) : M Value :=
 M.deref x.1 fun a0_ =>
 M.load (.cell .ptr) 1 (a0_.add 0) fun (x1_ : Option Addr) =>
 M.deref x.1 fun a2_ =>
 f66c0 X L x x1_ a2_

theorem e66 (X : Task → M Value) (L : LoopI) (x : (Option Addr) × (Int) × Unit) : evBody CC { call := X, loop := L } 66 (shsInj [(.cell .ptr), (.cell (.int .i64))] x) = f66 X L x := by kernel_rfl

/-- hayrick/summary.Sum -/
def f67 (X : Task → M Value) (L : LoopI) (x : (Int) × Unit) : M Value :=
 M.callS (.one (.cell .bool)) (X (.call 100 [(.int .i64 x.1)])) fun (r0_ : Bool) =>
 M.ite (!r0_)
 (M.pure (.int .i64 0))
 (M.guard (!(decide (15 = 0)))
 (M.pure (.int .i64 (IntKind.i64.wrap (((IntKind.i64.wrap ((IntKind.i64.wrap (4 * x.1)) + 14)) : Int).tdiv 15)))))

theorem e67 (X : Task → M Value) (L : LoopI) (x : (Int) × Unit) : evBody CC { call := X, loop := L } 67 (shsInj [(.cell (.int .i64))] x) = f67 X L x := by kernel_rfl

/-- (*hayrick/logs.Log).Records$1 -/
def f68c0 (X : Task → M Value) (L : LoopI) (x : (Option Addr) × (Option Addr) × (Option Addr) × Unit) (r28_ : ((Option Addr × Nat × Nat)) × (Int) × Unit) (r34_ : Int) (r37_ : Int) : M (Value) :=
 M.callS (.one (.cell (.int .i64))) (X (.call 67 [(.int .i64 r37_)])) fun (r38_ : Int) =>
 let v39_ : Int := IntKind.i64.wrap (r38_ * 112)
 M.guard (decide (0 ≤ v39_) && decide (v39_ ≤ ((r28_.1.2.2 : Nat) : Int)))
 (M.callS (.tuple [(.cell .slice), (.cell (.int .i64))]) (X (.call 70 [(.int .i64 r34_), (.slice (r28_.1.1.map (·.add (0 * 1))) ((Int.toNat v39_) - 0) (r28_.1.2.2 - 0))])) fun (r41_ : ((Option Addr × Nat × Nat)) × (Int) × Unit) =>
 M.deref x.2.2.1 fun a42_ =>
 M.store a42_ [(.slice r41_.1.1 r41_.1.2.1 r41_.1.2.2)]
 (M.pure (.int .i64 r41_.2.1)))
def f68c1 (X : Task → M Value) (L : LoopI) (x : (Option Addr) × (Option Addr) × (Option Addr) × Unit) (r28_ : ((Option Addr × Nat × Nat)) × (Int) × Unit) (v29_ : Bool) : M (Value) :=
 M.ite v29_
 (M.pure (.int .i64 r28_.2.1))
 (M.deref x.2.1 fun a30_ =>
 M.load (.cell .ptr) 1 a30_ fun (x31_ : Option Addr) =>
 M.deref x.2.1 fun a32_ =>
 M.load (.cell .ptr) 1 a32_ fun (x33_ : Option Addr) =>
 M.callS (.one (.cell (.int .i64))) (X (.call 56 [(.pointer x31_)])) fun (r34_ : Int) =>
 M.deref x.2.1 fun a35_ =>
 M.load (.cell .ptr) 1 a35_ fun (x36_ : Option Addr) => cond (veqv (.pointer x36_) (.pointer x33_)) (M.callS (.one (.cell (.int .i64))) (X (.call 56 [(.pointer x33_)])) fun (r37_ : Int) =>
 f68c0 X L x r28_ r34_ r37_) M.stuck)
def f68c2 (X : Task → M Value) (L : LoopI) (x : (Option Addr) × (Option Addr) × (Option Addr) × Unit) (x18_ : (Option Addr × Nat × Nat)) (x20_ : Int) : M (Value) :=
 M.guard (decide (0 ≤ x20_) && decide (x20_ < ((x18_.2.1 : Nat) : Int)))
 (M.deref x18_.1 fun a21_ =>
 M.load (.cell (.int .u64)) 1 (a21_.add ((Int.toNat x20_) * 1)) fun (x22_ : Int) =>
 M.ite (x22_ == 0)
 (M.pure (.int .i64 0))
 (M.deref x.2.1 fun a24_ =>
 M.load (.cell .ptr) 1 a24_ fun (x25_ : Option Addr) =>
 M.deref x.1 fun a26_ =>
 M.load (.cell (.int .i64)) 1 a26_ fun (x27_ : Int) =>
 M.callS (.tuple [(.cell .slice), (.cell (.int .i64))]) (X (.call 66 [(.pointer x25_), (.int .i64 x27_)])) fun (r28_ : ((Option Addr × Nat × Nat)) × (Int) × Unit) =>
 f68c1 X L x r28_ (!(r28_.2.1 == 0))))
def f68c3 (X : Task → M Value) (L : LoopI) (x : (Option Addr) × (Option Addr) × (Option Addr) × Unit) (v8_ : Bool) : M (Value) :=
 M.ite v8_
 (M.deref x.2.1 fun a9_ =>
 M.load (.cell .ptr) 1 a9_ fun (x10_ : Option Addr) =>
 M.deref x10_ fun a11_ =>
 M.load (.cell .slice) 1 (a11_.add 5) fun (x12_ : (Option Addr × Nat × Nat)) =>
 M.callS (.one (.cell .slice)) (X (.call 69 [(.slice x12_.1 x12_.2.1 x12_.2.2)])) fun (r13_ : (Option Addr × Nat × Nat)) =>
 M.deref x.2.2.1 fun a14_ =>
 M.store a14_ [(.slice r13_.1 r13_.2.1 r13_.2.2)]
 (M.pure (.int .i64 0)))
 (M.deref x.2.1 fun a15_ =>
 M.load (.cell .ptr) 1 a15_ fun (x16_ : Option Addr) =>
 M.deref x16_ fun a17_ =>
 M.load (.cell .slice) 1 (a17_.add 2) fun (x18_ : (Option Addr × Nat × Nat)) =>
 M.deref x.1 fun a19_ =>
 M.load (.cell (.int .i64)) 1 a19_ fun (x20_ : Int) =>
 f68c2 X L x x18_ x20_)
def f68c4 (X : Task → M Value) (L : LoopI) (x : (Option Addr) × (Option Addr) × (Option Addr) × Unit) : M (Value) :=
 M.join (fun (j0_ : (Bool) × Unit) =>
 M.ite j0_.1
 (M.pure (.int .i64 6))
 (M.deref x.1 fun a2_ =>
 M.load (.cell (.int .i64)) 1 a2_ fun (x3_ : Int) =>
 M.deref x.2.1 fun a4_ =>
 M.load (.cell .ptr) 1 a4_ fun (x5_ : Option Addr) =>
 M.deref x5_ fun a6_ =>
 M.load (.cell (.int .i64)) 1 (a6_.add 4) fun (x7_ : Int) =>
 f68c3 X L x (x3_ == x7_))) fun go1_ =>
 M.deref x.1 fun a43_ =>
 M.load (.cell (.int .i64)) 1 a43_ fun (x44_ : Int) =>
 M.ite (decide (x44_ < 0))
 (go1_ (true, ()))
 (M.deref x.1 fun a46_ =>
 M.load (.cell (.int .i64)) 1 a46_ fun (x47_ : Int) =>
 M.deref x.2.1 fun a48_ =>
 M.load (.cell .ptr) 1 a48_ fun (x49_ : Option Addr) =>
 M.deref x49_ fun a50_ =>
 M.load (.cell .slice) 1 (a50_.add 2) fun (x51_ : (Option Addr × Nat × Nat)) =>
 go1_ ((decide (x47_ ≥ ((x51_.2.1 : Nat) : Int))), ()))
def f68 (X : Task → M Value) (L : LoopI) (x : (Option Addr) × (Option Addr) × (Option Addr) × Unit) : M Value :=
 f68c4 X L x

theorem e68 (X : Task → M Value) (L : LoopI) (x : (Option Addr) × (Option Addr) × (Option Addr) × Unit) : evBody CC { call := X, loop := L } 68 (shsInj [(.cell .ptr), (.cell .ptr), (.cell .ptr)] x) = f68 X L x := by kernel_rfl

/-- slices.Clone[[]hayrick/api.Record,hayrick/api.Record] -/
def f69 (X : Task → M Value) (L : LoopI) (x : ((Option Addr × Nat × Nat)) × Unit) : M Value :=
 M.ite x.1.1.isNone
 (M.pure (.slice none 0 0))
 (M.new (.cells (Row.ofList []) 58 false (0, 0) false) fun b0_ =>
 M.append 58 4 32 (some (Addr.mk b0_ 0 none)) 0 0 (.slice x.1.1 x.1.2.1 x.1.2.2) fun a1_ n2_ c3_ =>
 M.pure (.slice a1_ n2_ c3_))

theorem e69 (X : Task → M Value) (L : LoopI) (x : ((Option Addr × Nat × Nat)) × Unit) : evBody CC { call := X, loop := L } 69 (shsInj [(.cell .slice)] x) = f69 X L x := by kernel_rfl

/-- hayrick/summary.Take -/
def f70c0 (X : Task → M Value) (L : LoopI) (s10_ : ((Option Addr × Nat × Nat)) × Unit) (r17_ : Value) : M ((((Option Addr × Nat × Nat)) × Unit) ⊕ ((((Option Addr × Nat × Nat)) × Unit) ⊕ ((((Option Addr × Nat × Nat)) × (Int) × Unit) ⊕ (Unit)))) :=
 match r17_ with
 | .nilIface => (M.stuck)
 | .iface t21_ y22_ => M.ite (Nat.beq t21_ 197) (M.need (((.agg [(.int .i64), .bool, (.int .i64), (.int .i64)]) : Sh).prj y22_) fun (x20_ : Int × Bool × Int × Int × Unit) => (M.new (.cells (Row.ofList [(.int .i64 x20_.1), (.bool x20_.2.1), (.int .i64 x20_.2.2.1), (.int .i64 x20_.2.2.2.1)]) 58 false (0, 0) false) fun b23_ =>
 M.append 58 4 32 s10_.1.1 s10_.1.2.1 s10_.1.2.2 (.slice (some (Addr.mk b23_ 0 none)) 1 1) fun a24_ n25_ c26_ =>
 M.pure (.inl ((a24_, n25_, c26_), ())))) (M.stuck)
 | _ => M.stuck
def f70c1 (X : Task → M Value) (L : LoopI) (s10_ : ((Option Addr × Nat × Nat)) × Unit) (r17_ : Value) : M ((((Option Addr × Nat × Nat)) × Unit) ⊕ ((((Option Addr × Nat × Nat)) × Unit) ⊕ ((((Option Addr × Nat × Nat)) × (Int) × Unit) ⊕ (Unit)))) :=
 match r17_ with
 | .nilIface => (M.stuck)
 | .iface t29_ y30_ => M.ite (Nat.beq t29_ 197) (M.need (((.agg [(.int .i64), .bool, (.int .i64), (.int .i64)]) : Sh).prj y30_) fun (x28_ : Int × Bool × Int × Int × Unit) => (M.new (.cells (Row.ofList [(.int .i64 x28_.1), (.bool x28_.2.1), (.int .i64 x28_.2.2.1), (.int .i64 x28_.2.2.2.1)]) 58 false (0, 0) false) fun b31_ =>
 M.append 58 4 32 s10_.1.1 s10_.1.2.1 s10_.1.2.2 (.slice (some (Addr.mk b31_ 0 none)) 1 1) fun a32_ n33_ c34_ =>
 M.pure (.inl ((a32_, n33_, c34_), ())))) (M.stuck)
 | _ => M.stuck
def f70c2 (X : Task → M Value) (L : LoopI) (s10_ : ((Option Addr × Nat × Nat)) × Unit) (r17_ : Value) : M ((((Option Addr × Nat × Nat)) × Unit) ⊕ ((((Option Addr × Nat × Nat)) × Unit) ⊕ ((((Option Addr × Nat × Nat)) × (Int) × Unit) ⊕ (Unit)))) :=
 match r17_ with
 | .nilIface => (M.new (.cells (Row.ofList []) 194 false (0, 0) false) fun b19_ =>
 M.store (Addr.mk b19_ 0 none) []
 (f70c0 X L s10_ r17_))
 | .iface t36_ y37_ => M.ite (Nat.beq t36_ 194) (M.need (((.agg []) : Sh).prj y37_) fun (x35_ : Unit) => (M.new (.cells (Row.ofList []) 194 false (0, 0) false) fun b38_ =>
 M.store (Addr.mk b38_ 0 none) []
 (M.pure (.inr (.inr (.inl ((none, 0, 0), 5, ()))))))) (M.new (.cells (Row.ofList []) 194 false (0, 0) false) fun b27_ =>
 M.store (Addr.mk b27_ 0 none) []
 (f70c1 X L s10_ r17_))
 | _ => M.stuck
def f70c3 (X : Task → M Value) (L : LoopI) (s10_ : ((Option Addr × Nat × Nat)) × Unit) (r17_ : Value) : M ((((Option Addr × Nat × Nat)) × Unit) ⊕ ((((Option Addr × Nat × Nat)) × Unit) ⊕ ((((Option Addr × Nat × Nat)) × (Int) × Unit) ⊕ (Unit)))) :=
 match r17_ with
 | .nilIface => (M.stuck)
 | .iface t42_ y43_ => M.ite (Nat.beq t42_ 197) (M.need (((.agg [(.int .i64), .bool, (.int .i64), (.int .i64)]) : Sh).prj y43_) fun (x41_ : Int × Bool × Int × Int × Unit) => (M.new (.cells (Row.ofList [(.int .i64 x41_.1), (.bool x41_.2.1), (.int .i64 x41_.2.2.1), (.int .i64 x41_.2.2.2.1)]) 58 false (0, 0) false) fun b44_ =>
 M.append 58 4 32 s10_.1.1 s10_.1.2.1 s10_.1.2.2 (.slice (some (Addr.mk b44_ 0 none)) 1 1) fun a45_ n46_ c47_ =>
 M.pure (.inl ((a45_, n46_, c47_), ())))) (M.stuck)
 | _ => M.stuck
def f70c4 (X : Task → M Value) (L : LoopI) (s10_ : ((Option Addr × Nat × Nat)) × Unit) (r17_ : Value) : M ((((Option Addr × Nat × Nat)) × Unit) ⊕ ((((Option Addr × Nat × Nat)) × Unit) ⊕ ((((Option Addr × Nat × Nat)) × (Int) × Unit) ⊕ (Unit)))) :=
 match r17_ with
 | .nilIface => (M.stuck)
 | .iface t50_ y51_ => M.ite (Nat.beq t50_ 197) (M.need (((.agg [(.int .i64), .bool, (.int .i64), (.int .i64)]) : Sh).prj y51_) fun (x49_ : Int × Bool × Int × Int × Unit) => (M.new (.cells (Row.ofList [(.int .i64 x49_.1), (.bool x49_.2.1), (.int .i64 x49_.2.2.1), (.int .i64 x49_.2.2.2.1)]) 58 false (0, 0) false) fun b52_ =>
 M.append 58 4 32 s10_.1.1 s10_.1.2.1 s10_.1.2.2 (.slice (some (Addr.mk b52_ 0 none)) 1 1) fun a53_ n54_ c55_ =>
 M.pure (.inl ((a53_, n54_, c55_), ())))) (M.stuck)
 | _ => M.stuck
def f70c5 (X : Task → M Value) (L : LoopI) (s10_ : ((Option Addr × Nat × Nat)) × Unit) (r17_ : Value) : M ((((Option Addr × Nat × Nat)) × Unit) ⊕ ((((Option Addr × Nat × Nat)) × Unit) ⊕ ((((Option Addr × Nat × Nat)) × (Int) × Unit) ⊕ (Unit)))) :=
 match r17_ with
 | .nilIface => (M.new (.cells (Row.ofList []) 194 false (0, 0) false) fun b40_ =>
 M.store (Addr.mk b40_ 0 none) []
 (f70c3 X L s10_ r17_))
 | .iface t57_ y58_ => M.ite (Nat.beq t57_ 194) (M.need (((.agg []) : Sh).prj y58_) fun (x56_ : Unit) => (M.new (.cells (Row.ofList []) 194 false (0, 0) false) fun b59_ =>
 M.store (Addr.mk b59_ 0 none) []
 (M.pure (.inr (.inr (.inl ((none, 0, 0), 5, ()))))))) (M.new (.cells (Row.ofList []) 194 false (0, 0) false) fun b48_ =>
 M.store (Addr.mk b48_ 0 none) []
 (f70c4 X L s10_ r17_))
 | _ => M.stuck
def f70c6 (X : Task → M Value) (L : LoopI) (s10_ : ((Option Addr × Nat × Nat)) × Unit) (r17_ : Value) : M ((((Option Addr × Nat × Nat)) × Unit) ⊕ ((((Option Addr × Nat × Nat)) × Unit) ⊕ ((((Option Addr × Nat × Nat)) × (Int) × Unit) ⊕ (Unit)))) :=
 match r17_ with
 | .nilIface => (M.new (.cells (Row.ofList []) 192 false (0, 0) false) fun b18_ =>
 M.store (Addr.mk b18_ 0 none) []
 (f70c2 X L s10_ r17_))
 | .iface t61_ y62_ => M.ite (Nat.beq t61_ 192) (M.need (((.agg []) : Sh).prj y62_) fun (x60_ : Unit) => (M.new (.cells (Row.ofList []) 192 false (0, 0) false) fun b63_ =>
 M.store (Addr.mk b63_ 0 none) []
 (M.pure (.inr (.inl (s10_.1, ())))))) (M.new (.cells (Row.ofList []) 192 false (0, 0) false) fun b39_ =>
 M.store (Addr.mk b39_ 0 none) []
 (f70c5 X L s10_ r17_))
 | _ => M.stuck
def f70c7 (X : Task → M Value) (L : LoopI) (x : (Int) × ((Option Addr × Nat × Nat)) × Unit) (s10_ : ((Option Addr × Nat × Nat)) × Unit) : M ((((Option Addr × Nat × Nat)) × Unit) ⊕ ((((Option Addr × Nat × Nat)) × Unit) ⊕ ((((Option Addr × Nat × Nat)) × (Int) × Unit) ⊕ (Unit)))) :=
 M.callS (.one (.cell (.int .i64))) (X (.call 58 [(.int .i64 x.1)])) fun (r12_ : Int) =>
 M.ite (decide (((s10_.1.2.1 : Nat) : Int) < r12_))
 (let v15_ : Int := IntKind.i64.wrap (8 * ((s10_.1.2.1 : Nat) : Int))
 M.guard (decide (0 ≤ v15_) && decide (v15_ ≤ ((x.2.1.2.1 : Nat) : Int)))
 (let v16_ : Nat := (Int.toNat v15_)
 M.callS (.one (.cell .val)) (X (.call 108 [(.slice (x.2.1.1.map (·.add (v16_ * 1))) (x.2.1.2.1 - v16_) (x.2.1.2.2 - v16_))])) fun (r17_ : Value) =>
 f70c6 X L s10_ r17_))
 (M.pure (.inr (.inl (s10_.1, ()))))
def f70c8 (X : Task → M Value) (L : LoopI) (x : (Int) × ((Option Addr × Nat × Nat)) × Unit) (j64_ : ((Option Addr × Nat × Nat)) × Unit) (v67_ : Nat) (v68_ : Int) : M (Value) :=
 M.bind (L (σ := (Int) × Unit) (ρ := (Unit) ⊕ ((((Option Addr × Nat × Nat)) × (Int) × Unit) ⊕ (Unit))) (fun s69_ =>
 M.ite (decide (s69_.1 < v68_))
 (M.guard (decide (0 ≤ s69_.1) && decide (s69_.1 < (((x.2.1.2.1 - v67_) : Nat) : Int)))
 (M.deref (x.2.1.1.map (·.add (v67_ * 1))) fun a71_ =>
 M.load (.cell (.int .u8)) 1 (a71_.add ((Int.toNat s69_.1) * 1)) fun (x72_ : Int) =>
 M.ite (!(x72_ == 0))
 (M.pure (.inr (.inr (.inl ((none, 0, 0), 5, ())))))
 (M.pure (.inl ((IntKind.i64.wrap (s69_.1 + 1)), ())))))
 (M.pure (.inr (.inl (()))))) (0, ())) <| M.sum (fun (j75_ : Unit) =>
 M.pure (.tuple ⟨[(.slice j64_.1.1 j64_.1.2.1 j64_.1.2.2), (.int .i64 0)]⟩)) (M.sum (fun (j76_ : ((Option Addr × Nat × Nat)) × (Int) × Unit) =>
 M.pure (.tuple ⟨[(.slice j76_.1.1 j76_.1.2.1 j76_.1.2.2), (.int .i64 j76_.2.1)]⟩)) (fun _ => M.stuck))
def f70c9 (X : Task → M Value) (L : LoopI) (x : (Int) × ((Option Addr × Nat × Nat)) × Unit) : M (Value) :=
 M.bind (L (σ := ((Option Addr × Nat × Nat)) × Unit) (ρ := (((Option Addr × Nat × Nat)) × Unit) ⊕ ((((Option Addr × Nat × Nat)) × (Int) × Unit) ⊕ (Unit))) (fun s10_ =>
 f70c7 X L x s10_) ((none, 0, 0), ())) <| M.sum (fun (j64_ : ((Option Addr × Nat × Nat)) × Unit) =>
 let v66_ : Int := IntKind.i64.wrap (8 * ((j64_.1.2.1 : Nat) : Int))
 M.guard (decide (0 ≤ v66_) && decide (v66_ ≤ ((x.2.1.2.1 : Nat) : Int)))
 (let v67_ : Nat := (Int.toNat v66_)
 f70c8 X L x j64_ v67_ (((x.2.1.2.1 - v67_) : Nat) : Int))) (M.sum (fun (j77_ : ((Option Addr × Nat × Nat)) × (Int) × Unit) =>
 M.pure (.tuple ⟨[(.slice j77_.1.1 j77_.1.2.1 j77_.1.2.2), (.int .i64 j77_.2.1)]⟩)) (fun _ => M.stuck))
def f70c10 (X : Task → M Value) (L : LoopI) (x : (Int) × ((Option Addr × Nat × Nat)) × Unit) (v1_ : Bool) : M (Value) :=
 M.ite v1_
 (M.pure (.tuple ⟨[(.slice none 0 0), (.int .i64 1)]⟩))
 (M.callS (.one (.cell (.int .i64))) (X (.call 67 [(.int .i64 x.1)])) fun (r3_ : Int) =>
 M.ite (decide (((x.2.1.2.1 : Nat) : Int) < (IntKind.i64.wrap (r3_ * 112))))
 (M.pure (.tuple ⟨[(.slice none 0 0), (.int .i64 4)]⟩))
 (M.callS (.one (.cell (.int .i64))) (X (.call 67 [(.int .i64 x.1)])) fun (r7_ : Int) =>
 M.ite (decide (((x.2.1.2.1 : Nat) : Int) > (IntKind.i64.wrap (r7_ * 112))))
 (M.pure (.tuple ⟨[(.slice none 0 0), (.int .i64 3)]⟩))
 (f70c9 X L x)))
def f70 (X : Task → M Value) (L : LoopI) (x : (Int) × ((Option Addr × Nat × Nat)) × Unit) : M Value :=
 M.callS (.one (.cell .bool)) (X (.call 100 [(.int .i64 x.1)])) fun (r0_ : Bool) =>
 f70c10 X L x (!r0_)

theorem e70 (X : Task → M Value) (L : LoopI) (x : (Int) × ((Option Addr × Nat × Nat)) × Unit) : evBody CC { call := X, loop := L } 70 (shsInj [(.cell (.int .i64)), (.cell .slice)] x) = f70 X L x := by kernel_rfl

/-- (*hayrick/logs.Log).SetFree$1 -/
def f71c0 (X : Task → M Value) (L : LoopI) (x : (Option Addr) × (Option Addr) × Unit) : M (Value) :=
 M.deref x.2.1 fun a13_ =>
 M.load (.cell .ptr) 1 a13_ fun (x14_ : Option Addr) =>
 M.deref x.1 fun a15_ =>
 M.load (.cell .slice) 1 a15_ fun (x16_ : (Option Addr × Nat × Nat)) =>
 M.callS (.one (.cell .slice)) (X (.call 73 [(.slice x16_.1 x16_.2.1 x16_.2.2)])) fun (r17_ : (Option Addr × Nat × Nat)) =>
 M.deref x.2.1 fun a18_ =>
 M.load (.cell .ptr) 1 a18_ fun (x19_ : Option Addr) => cond (veqv (.pointer x19_) (.pointer x14_)) (M.deref x14_ fun a20_ =>
 M.store (a20_.add 3) [(.slice r17_.1 r17_.2.1 r17_.2.2)]
 (M.pure (.int .i64 0))) M.stuck
def f71c1 (X : Task → M Value) (L : LoopI) (x : (Option Addr) × (Option Addr) × Unit) (x1_ : (Option Addr × Nat × Nat)) : M (Value) :=
 M.deref x.2.1 fun a2_ =>
 M.load (.cell .ptr) 1 a2_ fun (x3_ : Option Addr) =>
 M.deref x3_ fun a4_ =>
 M.load (.cell .slice) 1 (a4_.add 2) fun (x5_ : (Option Addr × Nat × Nat)) =>
 M.deref x.2.1 fun a7_ =>
 M.load (.cell .ptr) 1 a7_ fun (x8_ : Option Addr) =>
 M.deref x8_ fun a9_ =>
 M.load (.cell (.int .i64)) 1 (a9_.add 4) fun (x10_ : Int) =>
 M.callS (.one (.cell .bool)) (X (.call 72 [(.slice x1_.1 x1_.2.1 x1_.2.2), (.int .i64 ((x5_.2.1 : Nat) : Int)), (.int .i64 x10_)])) fun (r11_ : Bool) =>
 M.ite (!r11_)
 (M.pure (.int .i64 1))
 (f71c0 X L x)
def f71 (X : Task → M Value) (L : LoopI) (x : (Option Addr) × (Option Addr) × Unit) : M Value :=
 M.deref x.1 fun a0_ =>
 M.load (.cell .slice) 1 a0_ fun (x1_ : (Option Addr × Nat × Nat)) =>
 f71c1 X L x x1_

theorem e71 (X : Task → M Value) (L : LoopI) (x : (Option Addr) × (Option Addr) × Unit) : evBody CC { call := X, loop := L } 71 (shsInj [(.cell .ptr), (.cell .ptr)] x) = f71 X L x := by kernel_rfl

/-- hayrick/logs.slots -/
def f72c0 (X : Task → M Value) (L : LoopI) (x : ((Option Addr × Nat × Nat)) × (Int) × (Int) × Unit) (b0_ : Nat) (s2_ : (Int) × Unit) (x5_ : Int) : M (((Int) × Unit) ⊕ ((Unit) ⊕ (((Bool) × Unit) ⊕ (Unit)))) :=
 M.join (fun (j6_ : (Bool) × Unit) =>
 M.ite j6_.1
 (M.pure (.inr (.inr (.inl (false, ())))))
 (M.guard (decide (0 ≤ x5_) && decide (x5_ < (((Int.toNat x.2.1) : Nat) : Int)))
 (M.store ((Addr.mk b0_ 0 none).add ((Int.toNat x5_) * 1)) [(.bool true)]
 (M.pure (.inl ((IntKind.i64.wrap (s2_.1 + 1)), ())))))) fun go7_ =>
 M.ite (decide (x5_ < 0))
 (go7_ (true, ()))
 (M.ite (decide (x5_ ≥ x.2.1))
 (go7_ (true, ()))
 (M.guard (decide (0 ≤ x5_) && decide (x5_ < (((Int.toNat x.2.1) : Nat) : Int)))
 (M.load (.cell .bool) 1 ((Addr.mk b0_ 0 none).add ((Int.toNat x5_) * 1)) fun (x11_ : Bool) =>
 M.ite x11_
 (go7_ (true, ()))
 (go7_ ((x5_ == x.2.2.1), ())))))
def f72c1 (X : Task → M Value) (L : LoopI) (x : ((Option Addr × Nat × Nat)) × (Int) × (Int) × Unit) (b0_ : Nat) : M (Value) :=
 M.bind (L (σ := (Int) × Unit) (ρ := (Unit) ⊕ (((Bool) × Unit) ⊕ (Unit))) (fun s2_ =>
 M.ite (decide (s2_.1 < ((x.1.2.1 : Nat) : Int)))
 (M.guard (decide (0 ≤ s2_.1) && decide (s2_.1 < ((x.1.2.1 : Nat) : Int)))
 (M.deref x.1.1 fun a4_ =>
 M.load (.cell (.int .i64)) 1 (a4_.add ((Int.toNat s2_.1) * 1)) fun (x5_ : Int) =>
 f72c0 X L x b0_ s2_ x5_))
 (M.pure (.inr (.inl (()))))) (0, ())) <| M.sum (fun (j13_ : Unit) =>
 M.pure (.bool true)) (M.sum (fun (j14_ : (Bool) × Unit) =>
 M.pure (.bool j14_.1)) (fun _ => M.stuck))
def f72 (X : Task → M Value) (L : LoopI) (x : ((Option Addr × Nat × Nat)) × (Int) × (Int) × Unit) : M Value :=
 M.guard (decide (0 ≤ x.2.1) && decide (x.2.1 ≤ x.2.1) && decide ((1 : Int) * x.2.1 ≤ 2 ^ 48))
 (M.new (.cells (Row.rep [(.bool false)] (Int.toNat x.2.1)) 4 false (0, 0) false) fun b0_ =>
 f72c1 X L x b0_)

theorem e72 (X : Task → M Value) (L : LoopI) (x : ((Option Addr × Nat × Nat)) × (Int) × (Int) × Unit) : evBody CC { call := X, loop := L } 72 (shsInj [(.cell .slice), (.cell (.int .i64)), (.cell (.int .i64))] x) = f72 X L x := by kernel_rfl

/-- hayrick/logs.rising -/
def f73 (X : Task → M Value) (L : LoopI) (x : ((Option Addr × Nat × Nat)) × Unit) : M Value :=
 M.callS (.one (.cell .slice)) (X (.call 109 [(.slice x.1.1 x.1.2.1 x.1.2.2)])) fun (r0_ : (Option Addr × Nat × Nat)) =>
 M.callS (.tuple []) (X (.call 110 [(.slice r0_.1 r0_.2.1 r0_.2.2)])) fun (r1_ : Unit) =>
 M.pure (.slice r0_.1 r0_.2.1 r0_.2.2)

theorem e73 (X : Task → M Value) (L : LoopI) (x : ((Option Addr × Nat × Nat)) × Unit) : evBody CC { call := X, loop := L } 73 (shsInj [(.cell .slice)] x) = f73 X L x := by kernel_rfl

/-- (*hayrick/stripe.Stripes).Geometry -/
def f74c0 (X : Task → M Value) (L : LoopI) (x : (Option Addr) × Unit) (b0_ : Nat) (q1_ : Bool) : M (Value) :=
 M.ite q1_
 (M.store (Addr.mk b0_ 0 none) [(.int .i64 0), (.int .i64 0), (.int .i64 0)]
 (M.load (.agg [(.int .i64), (.int .i64), (.int .i64)]) 3 (Addr.mk b0_ 0 none) fun (x2_ : Int × Int × Int × Unit) =>
 M.pure (.agg ⟨[(.int .i64 x2_.1), (.int .i64 x2_.2.1), (.int .i64 x2_.2.2.1)]⟩)))
 (M.deref x.1 fun a3_ =>
 M.load (.agg [(.int .i64), (.int .i64), (.int .i64)]) 3 (a3_.add 1) fun (x4_ : Int × Int × Int × Unit) =>
 M.store (Addr.mk b0_ 0 none) [(.int .i64 x4_.1), (.int .i64 x4_.2.1), (.int .i64 x4_.2.2.1)]
 (M.load (.agg [(.int .i64), (.int .i64), (.int .i64)]) 3 (Addr.mk b0_ 0 none) fun (x5_ : Int × Int × Int × Unit) =>
 M.pure (.agg ⟨[(.int .i64 x5_.1), (.int .i64 x5_.2.1), (.int .i64 x5_.2.2.1)]⟩)))
def f74 (X : Task → M Value) (L : LoopI) (x : (Option Addr) × Unit) : M Value :=
 M.new (.cells (Row.ofList [(.int .i64 0), (.int .i64 0), (.int .i64 0)]) 127 false (0, 0) false) fun b0_ =>
 M.eqPtr x.1 none fun (q1_ : Bool) =>
 f74c0 X L x b0_ q1_

theorem e74 (X : Task → M Value) (L : LoopI) (x : (Option Addr) × Unit) : evBody CC { call := X, loop := L } 74 (shsInj [(.cell .ptr)] x) = f74 X L x := by kernel_rfl

/-- slices.Clone[[]uint64,uint64] -/
def f75 (X : Task → M Value) (L : LoopI) (x : ((Option Addr × Nat × Nat)) × Unit) : M Value :=
 M.ite x.1.1.isNone
 (M.pure (.slice none 0 0))
 (M.new (.cells (Row.ofList []) 75 false (0, 0) false) fun b0_ =>
 M.append 75 1 8 (some (Addr.mk b0_ 0 none)) 0 0 (.slice x.1.1 x.1.2.1 x.1.2.2) fun a1_ n2_ c3_ =>
 M.pure (.slice a1_ n2_ c3_))

theorem e75 (X : Task → M Value) (L : LoopI) (x : ((Option Addr × Nat × Nat)) × Unit) : evBody CC { call := X, loop := L } 75 (shsInj [(.cell .slice)] x) = f75 X L x := by kernel_rfl

/-- (*hayrick/logs.Log).Flush$1 -/
def f76 (X : Task → M Value) (L : LoopI) (x : (Option Addr) × Unit) : M Value :=
 M.deref x.1 fun a0_ =>
 M.load (.cell .ptr) 1 a0_ fun (x1_ : Option Addr) =>
 M.callS (.one (.cell (.int .i64))) (X (.call 59 [(.pointer x1_)])) fun (r2_ : Int) =>
 M.pure (.int .i64 r2_)

theorem e76 (X : Task → M Value) (L : LoopI) (x : (Option Addr) × Unit) : evBody CC { call := X, loop := L } 76 (shsInj [(.cell .ptr)] x) = f76 X L x := by kernel_rfl

/-- slices.Chunk[[]byte,byte] -/
def f93 (X : Task → M Value) (L : LoopI) (x : ((Option Addr × Nat × Nat)) × (Int) × Unit) : M Value :=
 M.new (.cells (Row.ofList [(.slice x.1.1 x.1.2.1 x.1.2.2)]) 49 false (0, 0) false) fun b0_ =>
 M.new (.cells (Row.ofList [(.int .i64 x.2.1)]) 3 false (0, 0) false) fun b1_ =>
 M.join (fun (j2_ : Unit) =>
 M.pure (.func (.func 114) ⟨[]⟩ ⟨[(.pointer (some (Addr.mk b0_ 0 none))), (.pointer (some (Addr.mk b1_ 0 none)))]⟩)) fun go3_ =>
 M.load (.cell (.int .i64)) 1 (Addr.mk b1_ 0 none) fun (x4_ : Int) =>
 M.ite (decide (x4_ < 1))
 (M.throw (.iface 9 (.string st2)))
 (go3_ (()))

theorem e93 (X : Task → M Value) (L : LoopI) (x : ((Option Addr × Nat × Nat)) × (Int) × Unit) : evBody CC { call := X, loop := L } 93 (shsInj [(.cell .slice), (.cell (.int .i64))] x) = f93 X L x := by kernel_rfl

/-- hayrick/array.New -/
def f95c0 (X : Task → M Value) (L : LoopI) (x : (Int) × (Int) × Unit) (b2_ : Nat) (s3_ : (Int) × Unit) (x5_ : (Option Addr × Nat × Nat)) : M (((Int) × Unit) ⊕ ((Unit) ⊕ (Unit))) :=
 M.guard (decide (0 ≤ x.2.1) && decide (x.2.1 ≤ x.2.1) && decide ((64 : Int) * x.2.1 ≤ 2 ^ 48))
 (M.new (.cells (Row.rep (zc 183) (Int.toNat x.2.1)) 183 false (0, 0) false) fun b6_ =>
 M.new (.cells (Row.ofList [(.slice (some (Addr.mk b6_ 0 none)) (Int.toNat x.2.1) (Int.toNat x.2.1))]) 207 false (0, 0) false) fun b7_ =>
 M.append 207 1 24 x5_.1 x5_.2.1 x5_.2.2 (.slice (some (Addr.mk b7_ 0 none)) 1 1) fun a8_ n9_ c10_ =>
 M.store ((Addr.mk b2_ 0 none).add 1) [(.slice a8_ n9_ c10_)]
 (M.pure (.inl ((IntKind.i64.wrap (s3_.1 + 1)), ()))))
def f95c1 (X : Task → M Value) (L : LoopI) (x : (Int) × (Int) × Unit) : M (Value) :=
 M.new (.cells (Row.ofList [(.int .i64 x.2.1), (.slice none 0 0), (.slice none 0 0), (.int .i64 0), (.bool false)]) 133 false (0, 0) false) fun b2_ =>
 M.bind (L (σ := (Int) × Unit) (ρ := (Unit) ⊕ (Unit)) (fun s3_ =>
 M.ite (decide (s3_.1 < x.1))
 (M.load (.cell .slice) 1 ((Addr.mk b2_ 0 none).add 1) fun (x5_ : (Option Addr × Nat × Nat)) =>
 f95c0 X L x b2_ s3_ x5_)
 (M.pure (.inr (.inl (()))))) (0, ())) <| M.sum (fun (j12_ : Unit) =>
 M.pure (.tuple ⟨[(.pointer (some (Addr.mk b2_ 0 none))), (.int .i64 0)]⟩)) (fun _ => M.stuck)
def f95 (X : Task → M Value) (L : LoopI) (x : (Int) × (Int) × Unit) : M Value :=
 M.join (fun (j0_ : (Bool) × Unit) =>
 M.ite j0_.1
 (M.pure (.tuple ⟨[(.pointer none), (.int .i64 1)]⟩))
 (f95c1 X L x)) fun go1_ =>
 M.ite (decide (x.1 < 1))
 (go1_ (true, ()))
 (M.ite (decide (x.1 > 255))
 (go1_ (true, ()))
 (M.ite (decide (x.2.1 < 1))
 (go1_ (true, ()))
 (go1_ ((decide (x.2.1 > 4096)), ()))))

theorem e95 (X : Task → M Value) (L : LoopI) (x : (Int) × (Int) × Unit) : evBody CC { call := X, loop := L } 95 (shsInj [(.cell (.int .i64)), (.cell (.int .i64))] x) = f95 X L x := by kernel_rfl

/-- hayrick/hayrickref06.New -/
def f96c0 (X : Task → M Value) (L : LoopI) (b2_ : Nat) (s3_ : (Int) × Unit) (x5_ : (Option Addr × Nat × Nat)) (r6_ : (Option Addr × Nat × Nat) × Bool × Unit) : M (((Int) × Unit) ⊕ ((Unit) ⊕ (Unit))) :=
 M.load (.cell .slice) 1 ((Addr.mk b2_ 0 none).add 0) fun (x7_ : (Option Addr × Nat × Nat)) => cond (veqv (.slice x7_.1 x7_.2.1 x7_.2.2) (.slice x5_.1 x5_.2.1 x5_.2.2)) (M.new (.cells (Row.ofList [(.slice r6_.1.1 r6_.1.2.1 r6_.1.2.2), (.bool r6_.2.1)]) 213 false (0, 0) false) fun b8_ =>
 M.append 213 2 32 x5_.1 x5_.2.1 x5_.2.2 (.slice (some (Addr.mk b8_ 0 none)) 1 1) fun a9_ n10_ c11_ =>
 M.store ((Addr.mk b2_ 0 none).add 0) [(.slice a9_ n10_ c11_)]
 (M.pure (.inl ((IntKind.i64.wrap (s3_.1 + 1)), ())))) M.stuck
def f96c1 (X : Task → M Value) (L : LoopI) (x : (Int) × (Int) × Unit) (b2_ : Nat) : M (Value) :=
 M.bind (L (σ := (Int) × Unit) (ρ := (Unit) ⊕ (Unit)) (fun s3_ =>
 M.ite (decide (s3_.1 < x.1))
 (M.load (.cell .slice) 1 ((Addr.mk b2_ 0 none).add 0) fun (x5_ : (Option Addr × Nat × Nat)) =>
 M.callS (.one (.agg [.slice, .bool])) (X (.call 115 [(.int .i64 x.2.1)])) fun (r6_ : (Option Addr × Nat × Nat) × Bool × Unit) =>
 f96c0 X L b2_ s3_ x5_ r6_)
 (M.pure (.inr (.inl (()))))) (0, ())) <| M.sum (fun (j13_ : Unit) =>
 M.pure (.tuple ⟨[(.pointer (some (Addr.mk b2_ 0 none))), (.int .i64 0)]⟩)) (fun _ => M.stuck)
def f96 (X : Task → M Value) (L : LoopI) (x : (Int) × (Int) × Unit) : M Value :=
 M.join (fun (j0_ : (Bool) × Unit) =>
 M.ite j0_.1
 (M.pure (.tuple ⟨[(.pointer none), (.int .i64 1)]⟩))
 (M.new (.cells (Row.ofList [(.slice none 0 0), (.int .i64 x.2.1), (.slice none 0 0), (.int .i64 0), (.bool false)]) 211 false (0, 0) false) fun b2_ =>
 f96c1 X L x b2_)) fun go1_ =>
 M.ite (decide (x.1 < 1))
 (go1_ (true, ()))
 (M.ite (decide (x.1 > 255))
 (go1_ (true, ()))
 (M.ite (decide (x.2.1 < 1))
 (go1_ (true, ()))
 (go1_ ((decide (x.2.1 > 4096)), ()))))

theorem e96 (X : Task → M Value) (L : LoopI) (x : (Int) × (Int) × Unit) : evBody CC { call := X, loop := L } 96 (shsInj [(.cell (.int .i64)), (.cell (.int .i64))] x) = f96 X L x := by kernel_rfl

/-- hayrick/stripe.New -/
def f97c0 (X : Task → M Value) (L : LoopI) (x : (Option Addr) × (Int × Int × Int × Unit) × (Int) × Unit) (b0_ : Nat) (go4_ : ((Bool) × Unit) → M (Value)) (x16_ : Int) (r17_ : Int) : M (Value) :=
 M.load (.cell (.int .i64)) 1 ((Addr.mk b0_ 0 none).add 1) fun (x18_ : Int) => cond (veqv (.int .i64 x18_) (.int .i64 x16_)) (M.ite (!(r17_ == x16_))
 (go4_ (true, ()))
 (M.load (.cell (.int .i64)) 1 ((Addr.mk b0_ 0 none).add 2) fun (x20_ : Int) =>
 M.callS (.one (.cell (.int .i64))) (X (.call 118 [(.pointer x.1)])) fun (r22_ : Int) =>
 M.load (.cell (.int .i64)) 1 ((Addr.mk b0_ 0 none).add 2) fun (x23_ : Int) => cond (veqv (.int .i64 x23_) (.int .i64 x20_)) (go4_ ((decide ((IntKind.i64.wrap (r22_ - x.2.2.1)) < (IntKind.i64.wrap (x20_ * 8)))), ())) M.stuck)) M.stuck
def f97c1 (X : Task → M Value) (L : LoopI) (x : (Option Addr) × (Int × Int × Int × Unit) × (Int) × Unit) (b0_ : Nat) (go4_ : ((Bool) × Unit) → M (Value)) (v10_ : Bool) : M (Value) :=
 M.ite v10_
 (go4_ (true, ()))
 (M.load (.cell (.int .i64)) 1 ((Addr.mk b0_ 0 none).add 2) fun (x11_ : Int) =>
 M.ite (decide (x11_ < 1))
 (go4_ (true, ()))
 (M.load (.cell (.int .i64)) 1 ((Addr.mk b0_ 0 none).add 2) fun (x13_ : Int) =>
 M.ite (decide (x13_ > 128))
 (go4_ (true, ()))
 (M.ite (decide (x.2.2.1 < 0))
 (go4_ (true, ()))
 (M.load (.cell (.int .i64)) 1 ((Addr.mk b0_ 0 none).add 1) fun (x16_ : Int) =>
 M.callS (.one (.cell (.int .i64))) (X (.call 116 [(.pointer x.1)])) fun (r17_ : Int) =>
 f97c0 X L x b0_ go4_ x16_ r17_))))
def f97c2 (X : Task → M Value) (L : LoopI) (x : (Option Addr) × (Int × Int × Int × Unit) × (Int) × Unit) (b0_ : Nat) : M (Value) :=
 M.join (fun (j3_ : (Bool) × Unit) =>
 M.ite j3_.1
 (M.pure (.tuple ⟨[(.pointer none), (.int .i64 1)]⟩))
 (M.load (.agg [(.int .i64), (.int .i64), (.int .i64)]) 3 (Addr.mk b0_ 0 none) fun (x5_ : Int × Int × Int × Unit) =>
 M.new (.cells (Row.ofList [(.pointer x.1), (.int .i64 x5_.1), (.int .i64 x5_.2.1), (.int .i64 x5_.2.2.1), (.int .i64 x.2.2.1)]) 129 false (0, 0) false) fun b6_ =>
 M.pure (.tuple ⟨[(.pointer (some (Addr.mk b6_ 0 none))), (.int .i64 0)]⟩))) fun go4_ =>
 M.load (.cell (.int .i64)) 1 ((Addr.mk b0_ 0 none).add 0) fun (x7_ : Int) =>
 M.load (.cell (.int .i64)) 1 ((Addr.mk b0_ 0 none).add 1) fun (x8_ : Int) =>
 M.callS (.one (.cell .bool)) (X (.call 117 [(.int .i64 x7_), (.int .i64 x8_)])) fun (r9_ : Bool) =>
 f97c1 X L x b0_ go4_ (!r9_)
def f97 (X : Task → M Value) (L : LoopI) (x : (Option Addr) × (Int × Int × Int × Unit) × (Int) × Unit) : M Value :=
 M.new (.cells (Row.ofList [(.int .i64 x.2.1.1), (.int .i64 x.2.1.2.1), (.int .i64 x.2.1.2.2.1)]) 127 false (0, 0) false) fun b0_ =>
 M.callS (.one (.cell (.int .i64))) (X (.call 116 [(.pointer x.1)])) fun (r1_ : Int) =>
 M.ite (r1_ == 0)
 (M.pure (.tuple ⟨[(.pointer none), (.int .i64 2)]⟩))
 (f97c2 X L x b0_)

theorem e97 (X : Task → M Value) (L : LoopI) (x : (Option Addr) × (Int × Int × Int × Unit) × (Int) × Unit) : evBody CC { call := X, loop := L } 97 (shsInj [(.cell .ptr), (.agg [(.int .i64), (.int .i64), (.int .i64)]), (.cell (.int .i64))] x) = f97 X L x := by kernel_rfl

/-- hayrick/hayrickref08.New -/
def f98c0 (X : Task → M Value) (L : LoopI) (x : (Option Addr) × (Int × Int × Int × Unit) × (Int) × Unit) (b0_ : Nat) (go4_ : ((Bool) × Unit) → M (Value)) (v9_ : Int) : M (Value) :=
 M.load (.cell (.int .i64)) 1 ((Addr.mk b0_ 0 none).add 1) fun (x10_ : Int) =>
 M.ite (!(v9_ == x10_))
 (go4_ (true, ()))
 (M.deref x.1 fun a12_ =>
 M.load (.cell (.int .i64)) 1 (a12_.add 1) fun (x13_ : Int) =>
 M.ite (decide (x13_ < x.2.2.1))
 (go4_ (true, ()))
 (M.deref x.1 fun a15_ =>
 M.load (.cell (.int .i64)) 1 (a15_.add 1) fun (x16_ : Int) =>
 M.load (.cell (.int .i64)) 1 ((Addr.mk b0_ 0 none).add 2) fun (x18_ : Int) =>
 go4_ ((decide ((IntKind.i64.wrap (x16_ - x.2.2.1)) < (IntKind.i64.wrap (8 * x18_)))), ())))
def f98c1 (X : Task → M Value) (L : LoopI) (x : (Option Addr) × (Int × Int × Int × Unit) × (Int) × Unit) (b0_ : Nat) : M (Value) :=
 M.join (fun (j3_ : (Bool) × Unit) =>
 M.ite j3_.1
 (M.pure (.tuple ⟨[(.pointer none), (.int .i64 1)]⟩))
 (M.load (.agg [(.int .i64), (.int .i64), (.int .i64)]) 3 (Addr.mk b0_ 0 none) fun (x5_ : Int × Int × Int × Unit) =>
 M.new (.cells (Row.ofList [(.pointer x.1), (.int .i64 x5_.1), (.int .i64 x5_.2.1), (.int .i64 x5_.2.2.1), (.int .i64 x.2.2.1)]) 173 false (0, 0) false) fun b6_ =>
 M.pure (.tuple ⟨[(.pointer (some (Addr.mk b6_ 0 none))), (.int .i64 0)]⟩))) fun go4_ =>
 M.deref x.1 fun a7_ =>
 M.load (.cell .slice) 1 (a7_.add 0) fun (x8_ : (Option Addr × Nat × Nat)) =>
 f98c0 X L x b0_ go4_ ((x8_.2.1 : Nat) : Int)
def f98c2 (X : Task → M Value) (L : LoopI) (x : (Option Addr) × (Int × Int × Int × Unit) × (Int) × Unit) (b0_ : Nat) (go2_ : ((Bool) × Unit) → M (Value)) : M (Value) :=
 M.load (.cell (.int .i64)) 1 ((Addr.mk b0_ 0 none).add 0) fun (x21_ : Int) =>
 M.load (.cell (.int .i64)) 1 ((Addr.mk b0_ 0 none).add 1) fun (x22_ : Int) =>
 M.callS (.one (.cell .bool)) (X (.call 119 [(.int .i64 x21_), (.int .i64 x22_)])) fun (r23_ : Bool) =>
 M.ite (!r23_)
 (go2_ (true, ()))
 (M.load (.cell (.int .i64)) 1 ((Addr.mk b0_ 0 none).add 2) fun (x25_ : Int) =>
 M.ite (decide (x25_ < 1))
 (go2_ (true, ()))
 (M.load (.cell (.int .i64)) 1 ((Addr.mk b0_ 0 none).add 2) fun (x27_ : Int) =>
 M.ite (decide (x27_ > 128))
 (go2_ (true, ()))
 (go2_ ((decide (x.2.2.1 < 0)), ()))))
def f98 (X : Task → M Value) (L : LoopI) (x : (Option Addr) × (Int × Int × Int × Unit) × (Int) × Unit) : M Value :=
 M.new (.cells (Row.ofList [(.int .i64 x.2.1.1), (.int .i64 x.2.1.2.1), (.int .i64 x.2.1.2.2.1)]) 127 false (0, 0) false) fun b0_ =>
 M.join (fun (j1_ : (Bool) × Unit) =>
 M.ite j1_.1
 (M.pure (.tuple ⟨[(.pointer none), (.int .i64 1)]⟩))
 (f98c1 X L x b0_)) fun go2_ =>
 f98c2 X L x b0_ go2_

theorem e98 (X : Task → M Value) (L : LoopI) (x : (Option Addr) × (Int × Int × Int × Unit) × (Int) × Unit) : evBody CC { call := X, loop := L } 98 (shsInj [(.cell .ptr), (.agg [(.int .i64), (.int .i64), (.int .i64)]), (.cell (.int .i64))] x) = f98 X L x := by kernel_rfl

/-- hayrick/hayrickref17.slots -/
def f99c0 (X : Task → M Value) (L : LoopI) (x : ((Option Addr × Nat × Nat)) × (Int) × (Int) × Unit) (b0_ : Nat) (s1_ : (Int) × Unit) (x7_ : Int) : M (((Int) × Unit) ⊕ ((Unit) ⊕ ((((Option Addr × Nat × Nat)) × (Bool) × Unit) ⊕ (Unit)))) :=
 M.load (.cell .bool) 1 ((Addr.mk b0_ 0 none).add ((Int.toNat x7_) * 1)) fun (x8_ : Bool) =>
 M.ite x8_
 (M.pure (.inr (.inr (.inl ((none, 0, 0), false, ())))))
 (M.guard (decide (0 ≤ s1_.1) && decide (s1_.1 < ((x.1.2.1 : Nat) : Int)))
 (M.deref x.1.1 fun a9_ =>
 M.load (.cell (.int .i64)) 1 (a9_.add ((Int.toNat s1_.1) * 1)) fun (x10_ : Int) =>
 M.guard (decide (0 ≤ x10_) && decide (x10_ < (((Int.toNat x.2.1) : Nat) : Int)))
 (M.store ((Addr.mk b0_ 0 none).add ((Int.toNat x10_) * 1)) [(.bool true)]
 (M.pure (.inl ((IntKind.i64.wrap (s1_.1 + 1)), ()))))))
def f99c1 (X : Task → M Value) (L : LoopI) (x : ((Option Addr × Nat × Nat)) × (Int) × (Int) × Unit) (s1_ : (Int) × Unit) (go5_ : ((Bool) × Unit) → M (((Int) × Unit) ⊕ ((Unit) ⊕ ((((Option Addr × Nat × Nat)) × (Bool) × Unit) ⊕ (Unit))))) (a12_ : Addr) : M (((Int) × Unit) ⊕ ((Unit) ⊕ ((((Option Addr × Nat × Nat)) × (Bool) × Unit) ⊕ (Unit)))) :=
 M.load (.cell (.int .i64)) 1 (a12_.add ((Int.toNat s1_.1) * 1)) fun (x13_ : Int) =>
 M.ite (decide (x13_ < 0))
 (go5_ (true, ()))
 (M.guard (decide (0 ≤ s1_.1) && decide (s1_.1 < ((x.1.2.1 : Nat) : Int)))
 (M.deref x.1.1 fun a15_ =>
 M.load (.cell (.int .i64)) 1 (a15_.add ((Int.toNat s1_.1) * 1)) fun (x16_ : Int) =>
 M.ite (decide (x16_ ≥ x.2.1))
 (go5_ (true, ()))
 (M.guard (decide (0 ≤ s1_.1) && decide (s1_.1 < ((x.1.2.1 : Nat) : Int)))
 (M.deref x.1.1 fun a18_ =>
 M.load (.cell (.int .i64)) 1 (a18_.add ((Int.toNat s1_.1) * 1)) fun (x19_ : Int) =>
 go5_ ((x19_ == x.2.2.1), ())))))
def f99c2 (X : Task → M Value) (L : LoopI) (x : ((Option Addr × Nat × Nat)) × (Int) × (Int) × Unit) (b0_ : Nat) (s1_ : (Int) × Unit) : M (((Int) × Unit) ⊕ ((Unit) ⊕ ((((Option Addr × Nat × Nat)) × (Bool) × Unit) ⊕ (Unit)))) :=
 M.join (fun (j4_ : (Bool) × Unit) =>
 M.ite j4_.1
 (M.pure (.inr (.inr (.inl ((none, 0, 0), false, ())))))
 (M.guard (decide (0 ≤ s1_.1) && decide (s1_.1 < ((x.1.2.1 : Nat) : Int)))
 (M.deref x.1.1 fun a6_ =>
 M.load (.cell (.int .i64)) 1 (a6_.add ((Int.toNat s1_.1) * 1)) fun (x7_ : Int) =>
 M.guard (decide (0 ≤ x7_) && decide (x7_ < (((Int.toNat x.2.1) : Nat) : Int)))
 (f99c0 X L x b0_ s1_ x7_)))) fun go5_ =>
 M.guard (decide (0 ≤ s1_.1) && decide (s1_.1 < ((x.1.2.1 : Nat) : Int)))
 (M.deref x.1.1 fun a12_ =>
 f99c1 X L x s1_ go5_ a12_)
def f99c3 (X : Task → M Value) (L : LoopI) (x : ((Option Addr × Nat × Nat)) × (Int) × (Int) × Unit) (b0_ : Nat) : M (Value) :=
 M.bind (L (σ := (Int) × Unit) (ρ := (Unit) ⊕ ((((Option Addr × Nat × Nat)) × (Bool) × Unit) ⊕ (Unit))) (fun s1_ =>
 M.ite (decide (s1_.1 < ((x.1.2.1 : Nat) : Int)))
 (f99c2 X L x b0_ s1_)
 (M.pure (.inr (.inl (()))))) (0, ())) <| M.sum (fun (j21_ : Unit) =>
 M.pure (.tuple ⟨[(.slice (some (Addr.mk b0_ 0 none)) (Int.toNat x.2.1) (Int.toNat x.2.1)), (.bool true)]⟩)) (M.sum (fun (j22_ : ((Option Addr × Nat × Nat)) × (Bool) × Unit) =>
 M.pure (.tuple ⟨[(.slice j22_.1.1 j22_.1.2.1 j22_.1.2.2), (.bool j22_.2.1)]⟩)) (fun _ => M.stuck))
def f99 (X : Task → M Value) (L : LoopI) (x : ((Option Addr × Nat × Nat)) × (Int) × (Int) × Unit) : M Value :=
 M.guard (decide (0 ≤ x.2.1) && decide (x.2.1 ≤ x.2.1) && decide ((1 : Int) * x.2.1 ≤ 2 ^ 48))
 (M.new (.cells (Row.rep [(.bool false)] (Int.toNat x.2.1)) 4 false (0, 0) false) fun b0_ =>
 f99c3 X L x b0_)

theorem e99 (X : Task → M Value) (L : LoopI) (x : ((Option Addr × Nat × Nat)) × (Int) × (Int) × Unit) : evBody CC { call := X, loop := L } 99 (shsInj [(.cell .slice), (.cell (.int .i64)), (.cell (.int .i64))] x) = f99 X L x := by kernel_rfl

/-- hayrick/summary.right -/
def f100 (X : Task → M Value) (L : LoopI) (x : (Int) × Unit) : M Value :=
 M.join (fun (j0_ : (Bool) × Unit) =>
 M.pure (.bool j0_.1)) fun go1_ =>
 M.ite (decide (x.1 ≥ 1))
 (go1_ ((decide (x.1 ≤ 254)), ()))
 (go1_ (false, ()))

theorem e100 (X : Task → M Value) (L : LoopI) (x : (Int) × Unit) : evBody CC { call := X, loop := L } 100 (shsInj [(.cell (.int .i64))] x) = f100 X L x := by kernel_rfl

/-- hayrick/summary.Put -/
def f101c0 (X : Task → M Value) (L : LoopI) (s3_ : (Int) × Unit) (x6_ : Int × Bool × Int × Int × Unit) (b7_ : Nat) : M (((Int) × Unit) ⊕ ((Unit) ⊕ ((((Option Addr × Nat × Nat)) × (Int) × Unit) ⊕ (Unit)))) :=
 M.store (Addr.mk b7_ 0 none) [(.int .i64 x6_.1), (.bool x6_.2.1), (.int .i64 x6_.2.2.1), (.int .i64 x6_.2.2.2.1)]
 (M.load (.agg [(.int .i64), .bool, (.int .i64), (.int .i64)]) 4 (Addr.mk b7_ 0 none) fun (x8_ : Int × Bool × Int × Int × Unit) =>
 M.callS (.one (.cell .bool)) (X (.call 54 [(.agg ⟨[(.int .i64 x8_.1), (.bool x8_.2.1), (.int .i64 x8_.2.2.1), (.int .i64 x8_.2.2.2.1)]⟩)])) fun (r9_ : Bool) =>
 M.ite (!r9_)
 (M.pure (.inr (.inr (.inl ((none, 0, 0), 1, ())))))
 (M.pure (.inl ((IntKind.i64.wrap (s3_.1 + 1)), ()))))
def f101c1 (X : Task → M Value) (L : LoopI) (b18_ : Nat) (go23_ : (Unit) → M (((Int) × Unit) ⊕ ((Unit) ⊕ (Unit)))) (b27_ : Nat) (v31_ : Nat) (v32_ : Nat) (x40_ : Int) (v41_ : Int) : M (((Int) × Unit) ⊕ ((Unit) ⊕ (Unit))) :=
 M.load (.cell (.int .i64)) 1 ((Addr.mk b27_ 0 none).add 3) fun (x47_ : Int) => cond (veqv (.int .i64 x47_) (.int .i64 x40_)) (M.guard (decide (0 ≤ 7) && decide (7 < (((v31_ - v32_) : Nat) : Int)))
 (M.store (((Addr.mk b18_ 0 none).add (v32_ * 1)).add ((Int.toNat 7) * 1)) [(.int .u8 v41_)]
 (M.load (.cell .bool) 1 ((Addr.mk b27_ 0 none).add 1) fun (x48_ : Bool) =>
 M.ite x48_
 (M.guard (decide (0 ≤ 1) && decide (1 < (((v31_ - v32_) : Nat) : Int)))
 (M.store (((Addr.mk b18_ 0 none).add (v32_ * 1)).add ((Int.toNat 1) * 1)) [(.int .u8 1)]
 (go23_ (()))))
 (go23_ (()))))) M.stuck
def f101c2 (X : Task → M Value) (L : LoopI) (b18_ : Nat) (go23_ : (Unit) → M (((Int) × Unit) ⊕ ((Unit) ⊕ (Unit)))) (b27_ : Nat) (v31_ : Nat) (v32_ : Nat) (v37_ : Int) (x38_ : Int) (v39_ : Int) (x40_ : Int) (v41_ : Int) : M (((Int) × Unit) ⊕ ((Unit) ⊕ (Unit))) :=
 M.store (((Addr.mk b18_ 0 none).add (v32_ * 1)).add ((Int.toNat 2) * 1)) [(.int .u8 v37_)]
 (M.load (.cell (.int .i64)) 1 ((Addr.mk b27_ 0 none).add 3) fun (x45_ : Int) => cond (veqv (.int .i64 x45_) (.int .i64 x40_)) (M.load (.cell (.int .i64)) 1 ((Addr.mk b27_ 0 none).add 2) fun (x46_ : Int) => cond (veqv (.int .i64 x46_) (.int .i64 x38_)) (M.guard (decide (0 ≤ 3) && decide (3 < (((v31_ - v32_) : Nat) : Int)))
 (M.store (((Addr.mk b18_ 0 none).add (v32_ * 1)).add ((Int.toNat 3) * 1)) [(.int .u8 v39_)]
 (f101c1 X L b18_ go23_ b27_ v31_ v32_ x40_ v41_))) M.stuck) M.stuck)
def f101c3 (X : Task → M Value) (L : LoopI) (b18_ : Nat) (go23_ : (Unit) → M (((Int) × Unit) ⊕ ((Unit) ⊕ (Unit)))) (b27_ : Nat) (v31_ : Nat) (v32_ : Nat) (x35_ : Int) (v37_ : Int) (x38_ : Int) (v39_ : Int) (x40_ : Int) (v41_ : Int) : M (((Int) × Unit) ⊕ ((Unit) ⊕ (Unit))) :=
 M.load (.cell (.int .i64)) 1 ((Addr.mk b27_ 0 none).add 3) fun (x42_ : Int) => cond (veqv (.int .i64 x42_) (.int .i64 x40_)) (M.load (.cell (.int .i64)) 1 ((Addr.mk b27_ 0 none).add 2) fun (x43_ : Int) => cond (veqv (.int .i64 x43_) (.int .i64 x38_)) (M.load (.cell (.int .i64)) 1 ((Addr.mk b27_ 0 none).add 2) fun (x44_ : Int) => cond (veqv (.int .i64 x44_) (.int .i64 x35_)) (M.guard (decide (0 ≤ 2) && decide (2 < (((v31_ - v32_) : Nat) : Int)))
 (f101c2 X L b18_ go23_ b27_ v31_ v32_ v37_ x38_ v39_ x40_ v41_)) M.stuck) M.stuck) M.stuck
def f101c4 (X : Task → M Value) (L : LoopI) (b18_ : Nat) (go23_ : (Unit) → M (((Int) × Unit) ⊕ ((Unit) ⊕ (Unit)))) (b27_ : Nat) (v31_ : Nat) (v32_ : Nat) (v34_ : Int) (x35_ : Int) : M (((Int) × Unit) ⊕ ((Unit) ⊕ (Unit))) :=
 M.guard (decide (0 ≤ 8))
 (M.load (.cell (.int .i64)) 1 ((Addr.mk b27_ 0 none).add 2) fun (x38_ : Int) =>
 M.load (.cell (.int .i64)) 1 ((Addr.mk b27_ 0 none).add 3) fun (x40_ : Int) =>
 M.guard (decide (0 ≤ 0) && decide (0 < (((v31_ - v32_) : Nat) : Int)))
 (M.store (((Addr.mk b18_ 0 none).add (v32_ * 1)).add ((Int.toNat 0) * 1)) [(.int .u8 v34_)]
 (f101c3 X L b18_ go23_ b27_ v31_ v32_ x35_ (IntKind.u8.wrap (((x35_ : Int)).fdiv (2 ^ (min (Int.toNat 8) IntKind.i64.bits)))) x38_ (IntKind.u8.wrap x38_) x40_ (IntKind.u8.wrap x40_))))
def f101c5 (X : Task → M Value) (L : LoopI) (v17_ : Int) (b18_ : Nat) (s20_ : (Int) × Unit) (go23_ : (Unit) → M (((Int) × Unit) ⊕ ((Unit) ⊕ (Unit)))) (b27_ : Nat) : M (((Int) × Unit) ⊕ ((Unit) ⊕ (Unit))) :=
 let v28_ : Int := IntKind.i64.wrap (8 * s20_.1)
 let v30_ : Int := IntKind.i64.wrap ((IntKind.i64.wrap (8 * s20_.1)) + 8)
 M.guard (decide (0 ≤ v30_) && decide (v30_ ≤ (((Int.toNat v17_) : Nat) : Int)))
 (let v31_ : Nat := (Int.toNat v30_)
 M.guard (decide (0 ≤ v28_) && decide (v28_ ≤ ((v31_ : Nat) : Int)))
 (M.load (.cell (.int .i64)) 1 ((Addr.mk b27_ 0 none).add 0) fun (x33_ : Int) =>
 M.load (.cell (.int .i64)) 1 ((Addr.mk b27_ 0 none).add 2) fun (x35_ : Int) =>
 f101c4 X L b18_ go23_ b27_ v31_ (Int.toNat v28_) (IntKind.u8.wrap x33_) x35_))
def f101c6 (X : Task → M Value) (L : LoopI) (x : (Int) × ((Option Addr × Nat × Nat)) × Unit) (v17_ : Int) (b18_ : Nat) (s20_ : (Int) × Unit) (go23_ : (Unit) → M (((Int) × Unit) ⊕ ((Unit) ⊕ (Unit)))) : M (((Int) × Unit) ⊕ ((Unit) ⊕ (Unit))) :=
 M.guard (decide (0 ≤ s20_.1) && decide (s20_.1 < ((x.2.1.2.1 : Nat) : Int)))
 (M.deref x.2.1.1 fun a25_ =>
 M.load (.agg [(.int .i64), .bool, (.int .i64), (.int .i64)]) 4 (a25_.add ((Int.toNat s20_.1) * 4)) fun (x26_ : Int × Bool × Int × Int × Unit) =>
 M.new (.cells (Row.ofList [(.int .i64 0), (.bool false), (.int .i64 0), (.int .i64 0)]) 58 false (0, 0) false) fun b27_ =>
 M.store (Addr.mk b27_ 0 none) [(.int .i64 x26_.1), (.bool x26_.2.1), (.int .i64 x26_.2.2.1), (.int .i64 x26_.2.2.2.1)]
 (f101c5 X L v17_ b18_ s20_ go23_ b27_))
def f101c7 (X : Task → M Value) (L : LoopI) (x : (Int) × ((Option Addr × Nat × Nat)) × Unit) (v17_ : Int) : M (Value) :=
 M.guard (decide (0 ≤ v17_) && decide (v17_ ≤ v17_) && decide ((1 : Int) * v17_ ≤ 2 ^ 48))
 (M.new (.cells (Row.rep [(.int .u8 0)] (Int.toNat v17_)) 5 false (0, 0) false) fun b18_ =>
 M.bind (L (σ := (Int) × Unit) (ρ := (Unit) ⊕ (Unit)) (fun s20_ =>
 M.ite (decide (s20_.1 < ((x.2.1.2.1 : Nat) : Int)))
 (M.join (fun (j22_ : Unit) =>
 M.pure (.inl ((IntKind.i64.wrap (s20_.1 + 1)), ()))) fun go23_ =>
 f101c6 X L x v17_ b18_ s20_ go23_)
 (M.pure (.inr (.inl (()))))) (0, ())) <| M.sum (fun (j49_ : Unit) =>
 M.pure (.tuple ⟨[(.slice (some (Addr.mk b18_ 0 none)) (Int.toNat v17_) (Int.toNat v17_)), (.int .i64 0)]⟩)) (fun _ => M.stuck))
def f101c8 (X : Task → M Value) (L : LoopI) (x : (Int) × ((Option Addr × Nat × Nat)) × Unit) (v2_ : Int) : M (Value) :=
 M.bind (L (σ := (Int) × Unit) (ρ := (Unit) ⊕ ((((Option Addr × Nat × Nat)) × (Int) × Unit) ⊕ (Unit))) (fun s3_ =>
 M.ite (decide (s3_.1 < v2_))
 (M.guard (decide (0 ≤ s3_.1) && decide (s3_.1 < ((x.2.1.2.1 : Nat) : Int)))
 (M.deref x.2.1.1 fun a5_ =>
 M.load (.agg [(.int .i64), .bool, (.int .i64), (.int .i64)]) 4 (a5_.add ((Int.toNat s3_.1) * 4)) fun (x6_ : Int × Bool × Int × Int × Unit) =>
 M.new (.cells (Row.ofList [(.int .i64 0), (.bool false), (.int .i64 0), (.int .i64 0)]) 58 false (0, 0) false) fun b7_ =>
 f101c0 X L s3_ x6_ b7_))
 (M.pure (.inr (.inl (()))))) (0, ())) <| M.sum (fun (j12_ : Unit) =>
 M.callS (.one (.cell (.int .i64))) (X (.call 58 [(.int .i64 x.1)])) fun (r14_ : Int) =>
 M.ite (decide (((x.2.1.2.1 : Nat) : Int) > r14_))
 (M.pure (.tuple ⟨[(.slice none 0 0), (.int .i64 3)]⟩))
 (M.callS (.one (.cell (.int .i64))) (X (.call 67 [(.int .i64 x.1)])) fun (r16_ : Int) =>
 f101c7 X L x (IntKind.i64.wrap (r16_ * 112)))) (M.sum (fun (j50_ : ((Option Addr × Nat × Nat)) × (Int) × Unit) =>
 M.pure (.tuple ⟨[(.slice j50_.1.1 j50_.1.2.1 j50_.1.2.2), (.int .i64 j50_.2.1)]⟩)) (fun _ => M.stuck))
def f101 (X : Task → M Value) (L : LoopI) (x : (Int) × ((Option Addr × Nat × Nat)) × Unit) : M Value :=
 M.callS (.one (.cell .bool)) (X (.call 100 [(.int .i64 x.1)])) fun (r0_ : Bool) =>
 M.ite (!r0_)
 (M.pure (.tuple ⟨[(.slice none 0 0), (.int .i64 1)]⟩))
 (f101c8 X L x ((x.2.1.2.1 : Nat) : Int))

theorem e101 (X : Task → M Value) (L : LoopI) (x : (Int) × ((Option Addr × Nat × Nat)) × Unit) : evBody CC { call := X, loop := L } 101 (shsInj [(.cell (.int .i64)), (.cell .slice)] x) = f101 X L x := by kernel_rfl

/-- (*hayrick/stripe.Stripes).Write -/
def f102c0 (X : Task → M Value) (L : LoopI) (x : (Option Addr) × (Int) × (Int) × ((Option Addr × Nat × Nat)) × Unit) (s23_ : (Int) × Unit) (go26_ : (Unit) → M (((Int) × Unit) ⊕ ((Unit) ⊕ (((Int) × Unit) ⊕ (Unit))))) (a28_ : Addr) : M (((Int) × Unit) ⊕ ((Unit) ⊕ (((Int) × Unit) ⊕ (Unit)))) :=
 M.load (.cell .slice) 1 (a28_.add ((Int.toNat s23_.1) * 1)) fun (x29_ : (Option Addr × Nat × Nat)) =>
 M.deref x.1 fun a30_ =>
 M.load (.cell .ptr) 1 (a30_.add 0) fun (x31_ : Option Addr) =>
 M.callS (.one (.cell .bool)) (X (.call 124 [(.pointer x31_), (.int .i64 s23_.1)])) fun (r32_ : Bool) =>
 M.ite (!r32_)
 (go26_ (()))
 (M.callS (.one (.cell (.int .i64))) (X (.call 125 [(.pointer x.1), (.int .i64 s23_.1), (.int .i64 x.2.1), (.int .u64 x.2.2.1), (.slice x29_.1 x29_.2.1 x29_.2.2)])) fun (r34_ : Int) =>
 M.ite (!(r34_ == 0))
 (M.pure (.inr (.inr (.inl (r34_, ())))))
 (go26_ (())))
def f102c1 (X : Task → M Value) (L : LoopI) (x : (Option Addr) × (Int) × (Int) × ((Option Addr × Nat × Nat)) × Unit) (r20_ : ((Option Addr × Nat × Nat)) × (Int) × Unit) (v22_ : Int) : M (Value) :=
 M.bind (L (σ := (Int) × Unit) (ρ := (Unit) ⊕ (((Int) × Unit) ⊕ (Unit))) (fun s23_ =>
 M.ite (decide (s23_.1 < v22_))
 (M.join (fun (j25_ : Unit) =>
 M.pure (.inl ((IntKind.i64.wrap (s23_.1 + 1)), ()))) fun go26_ =>
 M.guard (decide (0 ≤ s23_.1) && decide (s23_.1 < ((r20_.1.2.1 : Nat) : Int)))
 (M.deref r20_.1.1 fun a28_ =>
 f102c0 X L x s23_ go26_ a28_))
 (M.pure (.inr (.inl (()))))) (0, ())) <| M.sum (fun (j36_ : Unit) =>
 M.pure (.int .i64 0)) (M.sum (fun (j37_ : (Int) × Unit) =>
 M.pure (.int .i64 j37_.1)) (fun _ => M.stuck))
def f102c2 (X : Task → M Value) (L : LoopI) (x : (Option Addr) × (Int) × (Int) × ((Option Addr × Nat × Nat)) × Unit) (a13_ : Addr) (x14_ : Int) (a15_ : Addr) (x16_ : Int) (r17_ : (Option Addr × Nat × Nat)) : M (Value) :=
 M.load (.cell (.int .i64)) 1 ((a15_.add 1).add 1) fun (x18_ : Int) => cond (veqv (.int .i64 x18_) (.int .i64 x16_)) (M.load (.cell (.int .i64)) 1 ((a13_.add 1).add 0) fun (x19_ : Int) => cond (veqv (.int .i64 x19_) (.int .i64 x14_)) (M.callS (.tuple [(.cell .slice), (.cell (.int .i64))]) (X (.call 122 [(.int .i64 x14_), (.int .i64 x16_), (.slice r17_.1 r17_.2.1 r17_.2.2)])) fun (r20_ : ((Option Addr × Nat × Nat)) × (Int) × Unit) =>
 M.ite (!(r20_.2.1 == 0))
 (M.pure (.int .i64 r20_.2.1))
 (f102c1 X L x r20_ ((r20_.1.2.1 : Nat) : Int))) M.stuck) M.stuck
def f102c3 (X : Task → M Value) (L : LoopI) (x : (Option Addr) × (Int) × (Int) × ((Option Addr × Nat × Nat)) × Unit) (a8_ : Addr) (x9_ : Int) (r10_ : Int) : M (Value) :=
 M.load (.cell (.int .i64)) 1 ((a8_.add 1).add 0) fun (x11_ : Int) => cond (veqv (.int .i64 x11_) (.int .i64 x9_)) (M.ite (decide (r10_ < x9_))
 (M.pure (.int .i64 20))
 (M.deref x.1 fun a13_ =>
 M.load (.cell (.int .i64)) 1 ((a13_.add 1).add 0) fun (x14_ : Int) =>
 M.deref x.1 fun a15_ =>
 M.load (.cell (.int .i64)) 1 ((a15_.add 1).add 1) fun (x16_ : Int) =>
 M.callS (.one (.cell .slice)) (X (.call 123 [(.slice x.2.2.2.1.1 x.2.2.2.1.2.1 x.2.2.2.1.2.2)])) fun (r17_ : (Option Addr × Nat × Nat)) =>
 f102c2 X L x a13_ x14_ a15_ x16_ r17_)) M.stuck
def f102c4 (X : Task → M Value) (L : LoopI) (x : (Option Addr) × (Int) × (Int) × ((Option Addr × Nat × Nat)) × Unit) (v0_ : Int) (r1_ : Int × Int × Int × Unit) : M (Value) :=
 M.callS (.one (.cell (.int .i64))) (X (.call 120 [(.pointer x.1), (.int .i64 0), (.int .i64 x.2.1), (.int .u64 x.2.2.1), (.bool (v0_ == (IntKind.i64.wrap (r1_.1 * 448))))])) fun (r4_ : Int) =>
 M.ite (!(r4_ == 0))
 (M.pure (.int .i64 r4_))
 (M.deref x.1 fun a6_ =>
 M.load (.cell .ptr) 1 (a6_.add 0) fun (x7_ : Option Addr) =>
 M.deref x.1 fun a8_ =>
 M.load (.cell (.int .i64)) 1 ((a8_.add 1).add 0) fun (x9_ : Int) =>
 M.callS (.one (.cell (.int .i64))) (X (.call 121 [(.pointer x7_)])) fun (r10_ : Int) =>
 f102c3 X L x a8_ x9_ r10_)
def f102 (X : Task → M Value) (L : LoopI) (x : (Option Addr) × (Int) × (Int) × ((Option Addr × Nat × Nat)) × Unit) : M Value :=
 M.callS (.one (.agg [(.int .i64), (.int .i64), (.int .i64)])) (X (.call 74 [(.pointer x.1)])) fun (r1_ : Int × Int × Int × Unit) =>
 f102c4 X L x ((x.2.2.2.1.2.1 : Nat) : Int) r1_

theorem e102 (X : Task → M Value) (L : LoopI) (x : (Option Addr) × (Int) × (Int) × ((Option Addr × Nat × Nat)) × Unit) : evBody CC { call := X, loop := L } 102 (shsInj [(.cell .ptr), (.cell (.int .i64)), (.cell (.int .u64)), (.cell .slice)] x) = f102 X L x := by kernel_rfl

/-- math/bits.Mul -/
def f103 (X : Task → M Value) (L : LoopI) (x : (Int) × (Int) × Unit) : M Value :=
 M.callS (.tuple [(.cell (.int .u64)), (.cell (.int .u64))]) (X (.call 127 [(.int .u64 x.1), (.int .u64 x.2.1)])) fun (r0_ : (Int) × (Int) × Unit) =>
 M.pure (.tuple ⟨[(.int .u64 r0_.1), (.int .u64 r0_.2.1)]⟩)

theorem e103 (X : Task → M Value) (L : LoopI) (x : (Int) × (Int) × Unit) : evBody CC { call := X, loop := L } 103 (shsInj [(.cell (.int .u64)), (.cell (.int .u64))] x) = f103 X L x := by kernel_rfl

/-- (*hayrick/array.Array).burns -/
def f105c0 (X : Task → M Value) (L : LoopI) (x : (Option Addr) × Unit) (a0_ : Addr) : M (Value) :=
 M.load (.cell (.int .i64)) 1 (a0_.add 3) fun (x1_ : Int) =>
 M.ite (x1_ == 0)
 (M.pure (.bool false))
 (M.deref x.1 fun a3_ =>
 M.load (.cell (.int .i64)) 1 (a3_.add 3) fun (x4_ : Int) =>
 M.deref x.1 fun a6_ =>
 M.store (a6_.add 3) [(.int .i64 (IntKind.i64.wrap (x4_ - 1)))]
 (M.deref x.1 fun a7_ =>
 M.load (.cell (.int .i64)) 1 (a7_.add 3) fun (x8_ : Int) =>
 M.deref x.1 fun a10_ =>
 M.store (a10_.add 4) [(.bool (x8_ == 0))]
 (M.deref x.1 fun a11_ =>
 M.load (.cell .bool) 1 (a11_.add 4) fun (x12_ : Bool) =>
 M.pure (.bool x12_))))
def f105 (X : Task → M Value) (L : LoopI) (x : (Option Addr) × Unit) : M Value :=
 M.deref x.1 fun a0_ =>
 f105c0 X L x a0_

theorem e105 (X : Task → M Value) (L : LoopI) (x : (Option Addr) × Unit) : evBody CC { call := X, loop := L } 105 (shsInj [(.cell .ptr)] x) = f105 X L x := by kernel_rfl

/-- (*hayrick/array.Array).land -/
def f106c0 (X : Task → M Value) (L : LoopI) (b0_ : Nat) (x4_ : (Option Addr × Nat × Nat)) (x5_ : Int) : M (Value) :=
 M.guard (decide (0 ≤ x5_) && decide (x5_ < ((x4_.2.1 : Nat) : Int)))
 (M.deref x4_.1 fun a6_ =>
 M.load (.cell .slice) 1 (a6_.add ((Int.toNat x5_) * 1)) fun (x7_ : (Option Addr × Nat × Nat)) =>
 M.load (.cell (.int .i64)) 1 ((Addr.mk b0_ 0 none).add 1) fun (x8_ : Int) =>
 M.load .raw 64 ((Addr.mk b0_ 0 none).add 2) fun (x9_ : List Value) =>
 M.guard (decide (0 ≤ x8_) && decide (x8_ < ((x7_.2.1 : Nat) : Int)))
 (M.deref x7_.1 fun a10_ =>
 cond (Nat.beq x9_.length 64) (M.store (a10_.add ((Int.toNat x8_) * 64)) x9_
 (M.pure (.tuple ⟨[]⟩))) M.stuck))
def f106 (X : Task → M Value) (L : LoopI) (x : (Option Addr) × (List Value) × Unit) : M Value :=
 M.new (.cells (Row.ofList x.2.1) 185 false (0, 0) false) fun b0_ =>
 M.load (.cell (.int .i64)) 1 ((Addr.mk b0_ 0 none).add 0) fun (x1_ : Int) =>
 M.callS (.one (.cell .bool)) (X (.call 124 [(.pointer x.1), (.int .i64 x1_)])) fun (r2_ : Bool) =>
 M.ite r2_
 (M.deref x.1 fun a3_ =>
 M.load (.cell .slice) 1 (a3_.add 1) fun (x4_ : (Option Addr × Nat × Nat)) =>
 M.load (.cell (.int .i64)) 1 ((Addr.mk b0_ 0 none).add 0) fun (x5_ : Int) =>
 f106c0 X L b0_ x4_ x5_)
 (M.pure (.tuple ⟨[]⟩))

theorem e106 (X : Task → M Value) (L : LoopI) (x : (Option Addr) × (List Value) × Unit) : evBody CC { call := X, loop := L } 106 (shsInj [(.cell .ptr), .raw] x) = f106 X L x := by kernel_rfl

/-- (*hayrick/stripe.Stripes).Read -/
def f107c0 (X : Task → M Value) (L : LoopI) (r24_ : ((Option Addr × Nat × Nat)) × (Int) × Unit) (v26_ : Int) : M (Value) :=
 M.bind (L (σ := ((Option Addr × Nat × Nat)) × (Int) × Unit) (ρ := (((Option Addr × Nat × Nat)) × Unit) ⊕ (Unit)) (fun s27_ =>
 M.ite (decide (s27_.2.1 < v26_))
 (M.guard (decide (0 ≤ s27_.2.1) && decide (s27_.2.1 < ((r24_.1.2.1 : Nat) : Int)))
 (M.deref r24_.1.1 fun a29_ =>
 M.load (.cell .slice) 1 (a29_.add ((Int.toNat s27_.2.1) * 1)) fun (x30_ : (Option Addr × Nat × Nat)) =>
 M.append 5 1 1 s27_.1.1 s27_.1.2.1 s27_.1.2.2 (.slice x30_.1 x30_.2.1 x30_.2.2) fun a31_ n32_ c33_ =>
 M.pure (.inl ((a31_, n32_, c33_), (IntKind.i64.wrap (s27_.2.1 + 1)), ()))))
 (M.pure (.inr (.inl (s27_.1, ()))))) ((none, 0, 0), 0, ())) <| M.sum (fun (j35_ : ((Option Addr × Nat × Nat)) × Unit) =>
 M.pure (.tuple ⟨[(.slice j35_.1.1 j35_.1.2.1 j35_.1.2.2), (.int .i64 0)]⟩)) (fun _ => M.stuck)
def f107c1 (X : Task → M Value) (L : LoopI) (b6_ : Nat) (b7_ : Nat) (x18_ : Int) (x21_ : Int) : M (Value) :=
 M.load (.cell .slice) 1 (Addr.mk b6_ 0 none) fun (x22_ : (Option Addr × Nat × Nat)) =>
 M.load (.cell .slice) 1 (Addr.mk b7_ 0 none) fun (x23_ : (Option Addr × Nat × Nat)) =>
 M.callS (.tuple [(.cell .slice), (.cell (.int .i64))]) (X (.call 131 [(.int .i64 x18_), (.int .i64 x21_), (.slice x22_.1 x22_.2.1 x22_.2.2), (.slice x23_.1 x23_.2.1 x23_.2.2)])) fun (r24_ : ((Option Addr × Nat × Nat)) × (Int) × Unit) =>
 M.ite (!(r24_.2.1 == 0))
 (M.pure (.tuple ⟨[(.slice none 0 0), (.int .i64 r24_.2.1)]⟩))
 (f107c0 X L r24_ ((r24_.1.2.1 : Nat) : Int))
def f107c2 (X : Task → M Value) (L : LoopI) (b0_ : Nat) (b6_ : Nat) (b7_ : Nat) (v11_ : Int) (a13_ : Addr) : M (Value) :=
 M.load (.cell (.int .i64)) 1 ((a13_.add 1).add 0) fun (x14_ : Int) =>
 M.ite (decide (v11_ < x14_))
 (M.pure (.tuple ⟨[(.slice none 0 0), (.int .i64 20)]⟩))
 (M.load (.cell .ptr) 1 (Addr.mk b0_ 0 none) fun (x16_ : Option Addr) =>
 M.deref x16_ fun a17_ =>
 M.load (.cell (.int .i64)) 1 ((a17_.add 1).add 0) fun (x18_ : Int) =>
 M.load (.cell .ptr) 1 (Addr.mk b0_ 0 none) fun (x19_ : Option Addr) =>
 M.deref x19_ fun a20_ =>
 M.load (.cell (.int .i64)) 1 ((a20_.add 1).add 1) fun (x21_ : Int) =>
 f107c1 X L b6_ b7_ x18_ x21_)
def f107c3 (X : Task → M Value) (L : LoopI) (x : (Option Addr) × (Int) × (Int) × Unit) (b0_ : Nat) (b1_ : Nat) (b6_ : Nat) (b7_ : Nat) (x8_ : Option Addr) : M (Value) :=
 M.callS (.tuple []) (X (.call 128 [(.pointer x8_), (.int .i64 x.2.1), (.func (.func 129) ⟨[]⟩ ⟨[(.pointer (some (Addr.mk b1_ 0 none))), (.pointer (some (Addr.mk b6_ 0 none))), (.pointer (some (Addr.mk b0_ 0 none))), (.pointer (some (Addr.mk b7_ 0 none)))]⟩)])) fun (r9_ : Unit) =>
 M.load (.cell .slice) 1 (Addr.mk b6_ 0 none) fun (x10_ : (Option Addr × Nat × Nat)) =>
 M.load (.cell .ptr) 1 (Addr.mk b0_ 0 none) fun (x12_ : Option Addr) =>
 M.deref x12_ fun a13_ =>
 f107c2 X L b0_ b6_ b7_ ((x10_.2.1 : Nat) : Int) a13_
def f107c4 (X : Task → M Value) (L : LoopI) (x : (Option Addr) × (Int) × (Int) × Unit) (b0_ : Nat) (b1_ : Nat) (x2_ : Option Addr) : M (Value) :=
 M.load (.cell (.int .u64)) 1 (Addr.mk b1_ 0 none) fun (x3_ : Int) =>
 M.callS (.one (.cell (.int .i64))) (X (.call 120 [(.pointer x2_), (.int .i64 0), (.int .i64 x.2.1), (.int .u64 x3_), (.bool true)])) fun (r4_ : Int) =>
 M.ite (!(r4_ == 0))
 (M.pure (.tuple ⟨[(.slice none 0 0), (.int .i64 r4_)]⟩))
 (M.new (.cells (Row.ofList [(.slice none 0 0)]) 68 false (0, 0) false) fun b6_ =>
 M.new (.cells (Row.ofList [(.slice none 0 0)]) 111 false (0, 0) false) fun b7_ =>
 M.load (.cell .ptr) 1 (Addr.mk b0_ 0 none) fun (x8_ : Option Addr) =>
 f107c3 X L x b0_ b1_ b6_ b7_ x8_)
def f107 (X : Task → M Value) (L : LoopI) (x : (Option Addr) × (Int) × (Int) × Unit) : M Value :=
 M.new (.cells (Row.ofList [(.pointer x.1)]) 24 false (0, 0) false) fun b0_ =>
 M.new (.cells (Row.ofList [(.int .u64 x.2.2.1)]) 75 false (0, 0) false) fun b1_ =>
 M.load (.cell .ptr) 1 (Addr.mk b0_ 0 none) fun (x2_ : Option Addr) =>
 f107c4 X L x b0_ b1_ x2_

theorem e107 (X : Task → M Value) (L : LoopI) (x : (Option Addr) × (Int) × (Int) × Unit) : evBody CC { call := X, loop := L } 107 (shsInj [(.cell .ptr), (.cell (.int .i64)), (.cell (.int .u64))] x) = f107 X L x := by kernel_rfl

/-- hayrick/summary.form -/
def f108c0 (X : Task → M Value) (L : LoopI) (x : ((Option Addr × Nat × Nat)) × Unit) (b35_ : Nat) (go37_ : ((Bool) × Unit) → M (Value)) : M (Value) :=
 M.guard (decide (0 ≤ 1) && decide (1 < ((x.1.2.1 : Nat) : Int)))
 (M.deref x.1.1 fun a39_ =>
 M.load (.cell (.int .u8)) 1 (a39_.add ((Int.toNat 1) * 1)) fun (x40_ : Int) =>
 M.ite (decide (x40_ > 1))
 (go37_ (true, ()))
 (M.load (.agg [(.int .i64), .bool, (.int .i64), (.int .i64)]) 4 (Addr.mk b35_ 0 none) fun (x42_ : Int × Bool × Int × Int × Unit) =>
 M.callS (.one (.cell .bool)) (X (.call 54 [(.agg ⟨[(.int .i64 x42_.1), (.bool x42_.2.1), (.int .i64 x42_.2.2.1), (.int .i64 x42_.2.2.2.1)]⟩)])) fun (r43_ : Bool) =>
 go37_ ((!r43_), ())))
def f108c1 (X : Task → M Value) (L : LoopI) (x : ((Option Addr × Nat × Nat)) × Unit) (v5_ : Int) (v8_ : Bool) (v16_ : Int) (v34_ : Int) : M (Value) :=
 M.new (.cells (Row.ofList [(.int .i64 0), (.bool false), (.int .i64 0), (.int .i64 0)]) 58 false (0, 0) false) fun b35_ =>
 M.store (Addr.mk b35_ 0 none) [(.int .i64 v5_), (.bool v8_), (.int .i64 v16_), (.int .i64 v34_)]
 (M.join (fun (j36_ : (Bool) × Unit) =>
 M.ite j36_.1
 (M.pure (.iface 194 (.agg ⟨[]⟩)))
 (M.load (.agg [(.int .i64), .bool, (.int .i64), (.int .i64)]) 4 (Addr.mk b35_ 0 none) fun (x38_ : Int × Bool × Int × Int × Unit) =>
 M.pure (.iface 197 (.agg ⟨[(.int .i64 x38_.1), (.bool x38_.2.1), (.int .i64 x38_.2.2.1), (.int .i64 x38_.2.2.2.1)]⟩)))) fun go37_ =>
 f108c0 X L x b35_ go37_)
def f108c2 (X : Task → M Value) (L : LoopI) (x : ((Option Addr × Nat × Nat)) × Unit) (v5_ : Int) (v8_ : Bool) (v16_ : Int) (v25_ : Int) : M (Value) :=
 M.guard (decide (0 ≤ 6) && decide (6 < ((x.1.2.1 : Nat) : Int)))
 (M.deref x.1.1 fun a26_ =>
 M.load (.cell (.int .u8)) 1 (a26_.add ((Int.toNat 6) * 1)) fun (x27_ : Int) =>
 M.guard (decide (0 ≤ 8))
 (M.guard (decide (0 ≤ 7) && decide (7 < ((x.1.2.1 : Nat) : Int)))
 (M.deref x.1.1 fun a31_ =>
 M.load (.cell (.int .u8)) 1 (a31_.add ((Int.toNat 7) * 1)) fun (x32_ : Int) =>
 f108c1 X L x v5_ v8_ v16_ (bitsV .or .i64 (bitsV .or .i64 v25_ (IntKind.i64.wrap ((IntKind.i64.wrap x27_) * 2 ^ (min (Int.toNat 8) IntKind.i64.bits)))) (IntKind.i64.wrap x32_)))))
def f108c3 (X : Task → M Value) (L : LoopI) (x : ((Option Addr × Nat × Nat)) × Unit) (v5_ : Int) (v8_ : Bool) (v16_ : Int) (a17_ : Addr) : M (Value) :=
 M.load (.cell (.int .u8)) 1 (a17_.add ((Int.toNat 4) * 1)) fun (x18_ : Int) =>
 M.guard (decide (0 ≤ 24))
 (M.guard (decide (0 ≤ 5) && decide (5 < ((x.1.2.1 : Nat) : Int)))
 (M.deref x.1.1 fun a21_ =>
 M.load (.cell (.int .u8)) 1 (a21_.add ((Int.toNat 5) * 1)) fun (x22_ : Int) =>
 M.guard (decide (0 ≤ 16))
 (f108c2 X L x v5_ v8_ v16_ (bitsV .or .i64 (IntKind.i64.wrap ((IntKind.i64.wrap x18_) * 2 ^ (min (Int.toNat 24) IntKind.i64.bits))) (IntKind.i64.wrap ((IntKind.i64.wrap x22_) * 2 ^ (min (Int.toNat 16) IntKind.i64.bits)))))))
def f108c4 (X : Task → M Value) (L : LoopI) (x : ((Option Addr × Nat × Nat)) × Unit) (v5_ : Int) (v8_ : Bool) (a9_ : Addr) : M (Value) :=
 M.load (.cell (.int .u8)) 1 (a9_.add ((Int.toNat 2) * 1)) fun (x10_ : Int) =>
 M.guard (decide (0 ≤ 8))
 (M.guard (decide (0 ≤ 3) && decide (3 < ((x.1.2.1 : Nat) : Int)))
 (M.deref x.1.1 fun a13_ =>
 M.load (.cell (.int .u8)) 1 (a13_.add ((Int.toNat 3) * 1)) fun (x14_ : Int) =>
 M.guard (decide (0 ≤ 4) && decide (4 < ((x.1.2.1 : Nat) : Int)))
 (M.deref x.1.1 fun a17_ =>
 f108c3 X L x v5_ v8_ (bitsV .or .i64 (IntKind.i64.wrap ((IntKind.i64.wrap x10_) * 2 ^ (min (Int.toNat 8) IntKind.i64.bits))) (IntKind.i64.wrap x14_)) a17_)))
def f108c5 (X : Task → M Value) (L : LoopI) (x : ((Option Addr × Nat × Nat)) × Unit) (v2_ : Bool) : M (Value) :=
 M.ite v2_
 (M.pure (.iface 192 (.agg ⟨[]⟩)))
 (M.guard (decide (0 ≤ 0) && decide (0 < ((x.1.2.1 : Nat) : Int)))
 (M.deref x.1.1 fun a3_ =>
 M.load (.cell (.int .u8)) 1 (a3_.add ((Int.toNat 0) * 1)) fun (x4_ : Int) =>
 M.guard (decide (0 ≤ 1) && decide (1 < ((x.1.2.1 : Nat) : Int)))
 (M.deref x.1.1 fun a6_ =>
 M.load (.cell (.int .u8)) 1 (a6_.add ((Int.toNat 1) * 1)) fun (x7_ : Int) =>
 M.guard (decide (0 ≤ 2) && decide (2 < ((x.1.2.1 : Nat) : Int)))
 (M.deref x.1.1 fun a9_ =>
 f108c4 X L x (IntKind.i64.wrap x4_) (x7_ == 1) a9_))))
def f108 (X : Task → M Value) (L : LoopI) (x : ((Option Addr × Nat × Nat)) × Unit) : M Value :=
 M.guard (decide (0 ≤ 0) && decide (0 < ((x.1.2.1 : Nat) : Int)))
 (M.deref x.1.1 fun a0_ =>
 M.load (.cell (.int .u8)) 1 (a0_.add ((Int.toNat 0) * 1)) fun (x1_ : Int) =>
 f108c5 X L x (x1_ == 0))

theorem e108 (X : Task → M Value) (L : LoopI) (x : ((Option Addr × Nat × Nat)) × Unit) : evBody CC { call := X, loop := L } 108 (shsInj [(.cell .slice)] x) = f108 X L x := by kernel_rfl

/-- slices.Clone[[]int,int] -/
def f109 (X : Task → M Value) (L : LoopI) (x : ((Option Addr × Nat × Nat)) × Unit) : M Value :=
 M.ite x.1.1.isNone
 (M.pure (.slice none 0 0))
 (M.new (.cells (Row.ofList []) 3 false (0, 0) false) fun b0_ =>
 M.append 3 1 8 (some (Addr.mk b0_ 0 none)) 0 0 (.slice x.1.1 x.1.2.1 x.1.2.2) fun a1_ n2_ c3_ =>
 M.pure (.slice a1_ n2_ c3_))

theorem e109 (X : Task → M Value) (L : LoopI) (x : ((Option Addr × Nat × Nat)) × Unit) : evBody CC { call := X, loop := L } 109 (shsInj [(.cell .slice)] x) = f109 X L x := by kernel_rfl

/-- slices.Sort[[]int,int] -/
def f110 (X : Task → M Value) (L : LoopI) (x : ((Option Addr × Nat × Nat)) × Unit) : M Value :=
 let v0_ : Int := ((x.1.2.1 : Nat) : Int)
 M.callS (.one (.cell (.int .i64))) (X (.call 133 [(.int .u64 (IntKind.u64.wrap v0_))])) fun (r2_ : Int) =>
 M.callS (.tuple []) (X (.call 132 [(.slice x.1.1 x.1.2.1 x.1.2.2), (.int .i64 0), (.int .i64 v0_), (.int .i64 r2_)])) fun (r3_ : Unit) =>
 M.pure (.tuple ⟨[]⟩)

theorem e110 (X : Task → M Value) (L : LoopI) (x : ((Option Addr × Nat × Nat)) × Unit) : evBody CC { call := X, loop := L } 110 (shsInj [(.cell .slice)] x) = f110 X L x := by kernel_rfl

/-- slices.Chunk[[]byte,byte]$1 -/
def f114c0 (X : Task → M Value) (L : LoopI) (x : (Value) × (Option Addr) × (Option Addr) × Unit) (s0_ : (Int) × Unit) (x13_ : (Option Addr × Nat × Nat)) (v14_ : Int) (v15_ : Int) : M (((Int) × Unit) ⊕ ((Unit) ⊕ ((Unit) ⊕ (Unit)))) :=
 M.guard (decide (0 ≤ v15_) && decide (v15_ ≤ ((x13_.2.2 : Nat) : Int)))
 (let v16_ : Nat := (Int.toNat v15_)
 M.guard (decide (0 ≤ v14_) && decide (v14_ ≤ ((v16_ : Nat) : Int)))
 (let v17_ : Nat := (Int.toNat v14_)
 M.guard (decide (0 ≤ s0_.1) && decide (s0_.1 ≤ ((v17_ : Nat) : Int)))
 (let v18_ : Nat := (Int.toNat s0_.1)
 callV CC ⟨X, L⟩ x.1 [(.slice (x13_.1.map (·.add (v18_ * 1))) (v17_ - v18_) (v16_ - v18_))] fun w20_ => M.need (RSh.prj (.one (.cell .bool)) w20_) fun (r19_ : Bool) =>
 M.ite (!r19_)
 (M.pure (.inr (.inr (.inl (())))))
 (M.deref x.2.2.1 fun a22_ =>
 M.load (.cell (.int .i64)) 1 a22_ fun (x23_ : Int) =>
 M.pure (.inl ((IntKind.i64.wrap (s0_.1 + x23_)), ()))))))
def f114c1 (X : Task → M Value) (L : LoopI) (x : (Value) × (Option Addr) × (Option Addr) × Unit) (s0_ : (Int) × Unit) : M (((Int) × Unit) ⊕ ((Unit) ⊕ ((Unit) ⊕ (Unit)))) :=
 M.deref x.2.2.1 fun a5_ =>
 M.load (.cell (.int .i64)) 1 a5_ fun (x6_ : Int) =>
 M.deref x.2.1 fun a7_ =>
 M.load (.cell .slice) 1 a7_ fun (x8_ : (Option Addr × Nat × Nat)) =>
 M.guard (decide (0 ≤ s0_.1) && decide (s0_.1 ≤ ((x8_.2.1 : Nat) : Int)))
 (let v10_ : Int := (((x8_.2.1 - (Int.toNat s0_.1)) : Nat) : Int)
 let v11_ : Int := (if v10_ < x6_ then v10_ else x6_)
 M.deref x.2.1 fun a12_ =>
 M.load (.cell .slice) 1 a12_ fun (x13_ : (Option Addr × Nat × Nat)) =>
 f114c0 X L x s0_ x13_ (IntKind.i64.wrap (s0_.1 + v11_)) (IntKind.i64.wrap (s0_.1 + v11_)))
def f114 (X : Task → M Value) (L : LoopI) (x : (Value) × (Option Addr) × (Option Addr) × Unit) : M Value :=
 M.bind (L (σ := (Int) × Unit) (ρ := (Unit) ⊕ ((Unit) ⊕ (Unit))) (fun s0_ =>
 M.deref x.2.1 fun a1_ =>
 M.load (.cell .slice) 1 a1_ fun (x2_ : (Option Addr × Nat × Nat)) =>
 M.ite (decide (s0_.1 < ((x2_.2.1 : Nat) : Int)))
 (f114c1 X L x s0_)
 (M.pure (.inr (.inl (()))))) (0, ())) <| M.sum (fun (j25_ : Unit) =>
 M.pure (.tuple ⟨[]⟩)) (M.sum (fun (j26_ : Unit) =>
 M.pure (.tuple ⟨[]⟩)) (fun _ => M.stuck))

theorem e114 (X : Task → M Value) (L : LoopI) (x : (Value) × (Option Addr) × (Option Addr) × Unit) : evBody CC { call := X, loop := L } 114 (shsInj [(.cell .val), (.cell .ptr), (.cell .ptr)] x) = f114 X L x := by kernel_rfl

/-- hayrick/hayrickref06.blank -/
def f115c0 (X : Task → M Value) (L : LoopI) (b1_ : Nat) (s2_ : (Int) × Unit) (x4_ : (Option Addr × Nat × Nat)) : M (((Int) × Unit) ⊕ ((Unit) ⊕ (Unit))) :=
 M.guard (decide (0 ≤ 64) && decide (64 ≤ 64) && decide ((1 : Int) * 64 ≤ 2 ^ 48))
 (M.new (.cells (Row.rep [(.int .u8 0)] (Int.toNat 64)) 5 false (0, 0) false) fun b5_ =>
 M.new (.cells (Row.ofList [(.slice (some (Addr.mk b5_ 0 none)) (Int.toNat 64) (Int.toNat 64))]) 49 false (0, 0) false) fun b6_ =>
 M.append 49 1 24 x4_.1 x4_.2.1 x4_.2.2 (.slice (some (Addr.mk b6_ 0 none)) 1 1) fun a7_ n8_ c9_ =>
 M.store ((Addr.mk b1_ 0 none).add 0) [(.slice a7_ n8_ c9_)]
 (M.pure (.inl ((IntKind.i64.wrap (s2_.1 + 1)), ()))))
def f115c1 (X : Task → M Value) (L : LoopI) (x : (Int) × Unit) (b0_ : Nat) (b1_ : Nat) : M (Value) :=
 M.bind (L (σ := (Int) × Unit) (ρ := (Unit) ⊕ (Unit)) (fun s2_ =>
 M.ite (decide (s2_.1 < x.1))
 (M.load (.cell .slice) 1 ((Addr.mk b1_ 0 none).add 0) fun (x4_ : (Option Addr × Nat × Nat)) =>
 f115c0 X L b1_ s2_ x4_)
 (M.pure (.inr (.inl (()))))) (0, ())) <| M.sum (fun (j11_ : Unit) =>
 M.load (.agg [.slice, .bool]) 2 (Addr.mk b1_ 0 none) fun (x12_ : (Option Addr × Nat × Nat) × Bool × Unit) =>
 M.store (Addr.mk b0_ 0 none) [(.slice x12_.1.1 x12_.1.2.1 x12_.1.2.2), (.bool x12_.2.1)]
 (M.load (.agg [.slice, .bool]) 2 (Addr.mk b0_ 0 none) fun (x13_ : (Option Addr × Nat × Nat) × Bool × Unit) =>
 M.pure (.agg ⟨[(.slice x13_.1.1 x13_.1.2.1 x13_.1.2.2), (.bool x13_.2.1)]⟩))) (fun _ => M.stuck)
def f115 (X : Task → M Value) (L : LoopI) (x : (Int) × Unit) : M Value :=
 M.new (.cells (Row.ofList [(.slice none 0 0), (.bool false)]) 213 false (0, 0) false) fun b0_ =>
 M.new (.cells (Row.ofList [(.slice none 0 0), (.bool false)]) 213 false (0, 0) false) fun b1_ =>
 M.store (Addr.mk b1_ 0 none) [(.slice none 0 0), (.bool false)]
 (f115c1 X L x b0_ b1_)

theorem e115 (X : Task → M Value) (L : LoopI) (x : (Int) × Unit) : evBody CC { call := X, loop := L } 115 (shsInj [(.cell (.int .i64))] x) = f115 X L x := by kernel_rfl

/-- (*hayrick/array.Array).Disks -/
def f116 (X : Task → M Value) (L : LoopI) (x : (Option Addr) × Unit) : M Value :=
 M.eqPtr x.1 none fun (q0_ : Bool) =>
 M.ite q0_
 (M.pure (.int .i64 0))
 (M.deref x.1 fun a1_ =>
 M.load (.cell .slice) 1 (a1_.add 1) fun (x2_ : (Option Addr × Nat × Nat)) =>
 M.pure (.int .i64 ((x2_.2.1 : Nat) : Int)))

theorem e116 (X : Task → M Value) (L : LoopI) (x : (Option Addr) × Unit) : evBody CC { call := X, loop := L } 116 (shsInj [(.cell .ptr)] x) = f116 X L x := by kernel_rfl

/-- hayrick/code.May -/
def f117 (X : Task → M Value) (L : LoopI) (x : (Int) × (Int) × Unit) : M Value :=
 M.join (fun (j0_ : (Bool) × Unit) =>
 M.pure (.bool j0_.1)) fun go1_ =>
 M.ite (decide (x.1 ≥ 1))
 (M.ite (decide (x.2.1 > x.1))
 (go1_ ((decide (x.2.1 ≤ 255)), ()))
 (go1_ (false, ())))
 (go1_ (false, ()))

theorem e117 (X : Task → M Value) (L : LoopI) (x : (Int) × (Int) × Unit) : evBody CC { call := X, loop := L } 117 (shsInj [(.cell (.int .i64)), (.cell (.int .i64))] x) = f117 X L x := by kernel_rfl

/-- (*hayrick/array.Array).Sectors -/
def f118 (X : Task → M Value) (L : LoopI) (x : (Option Addr) × Unit) : M Value :=
 M.eqPtr x.1 none fun (q0_ : Bool) =>
 M.ite q0_
 (M.pure (.int .i64 0))
 (M.deref x.1 fun a1_ =>
 M.load (.cell (.int .i64)) 1 (a1_.add 0) fun (x2_ : Int) =>
 M.pure (.int .i64 x2_))

theorem e118 (X : Task → M Value) (L : LoopI) (x : (Option Addr) × Unit) : evBody CC { call := X, loop := L } 118 (shsInj [(.cell .ptr)] x) = f118 X L x := by kernel_rfl

/-- hayrick/hayrickref04.May -/
def f119 (X : Task → M Value) (L : LoopI) (x : (Int) × (Int) × Unit) : M Value :=
 M.join (fun (j0_ : (Bool) × Unit) =>
 M.pure (.bool j0_.1)) fun go1_ =>
 M.ite (decide (x.1 > 0))
 (M.ite (decide (x.2.1 > x.1))
 (go1_ ((decide (x.2.1 < 256)), ()))
 (go1_ (false, ())))
 (go1_ (false, ()))

theorem e119 (X : Task → M Value) (L : LoopI) (x : (Int) × (Int) × Unit) : evBody CC { call := X, loop := L } 119 (shsInj [(.cell (.int .i64)), (.cell (.int .i64))] x) = f119 X L x := by kernel_rfl

/-- (*hayrick/stripe.Stripes).right -/
def f120c0 (X : Task → M Value) (L : LoopI) (x : (Option Addr) × (Int) × (Int) × (Int) × (Bool) × Unit) : M (Value) :=
 M.join (fun (j5_ : (Bool) × Unit) =>
 M.ite j5_.1
 (M.pure (.int .i64 6))
 (M.join (fun (j7_ : (Bool) × Unit) =>
 M.ite j7_.1
 (M.pure (.int .i64 1))
 (M.pure (.int .i64 0))) fun go8_ =>
 M.ite (x.2.2.2.1 == 0)
 (go8_ (true, ()))
 (go8_ ((!x.2.2.2.2.1), ())))) fun go6_ =>
 M.ite (decide (x.2.2.1 < 0))
 (go6_ (true, ()))
 (M.deref x.1 fun a12_ =>
 M.load (.cell (.int .i64)) 1 ((a12_.add 1).add 2) fun (x13_ : Int) =>
 M.ite (decide (x.2.2.1 ≥ x13_))
 (go6_ (true, ()))
 (M.ite (decide (x.2.1 < 0))
 (go6_ (true, ()))
 (M.deref x.1 fun a16_ =>
 M.load (.cell (.int .i64)) 1 ((a16_.add 1).add 1) fun (x17_ : Int) =>
 go6_ ((decide (x.2.1 ≥ x17_)), ()))))
def f120c1 (X : Task → M Value) (L : LoopI) (x : (Option Addr) × (Int) × (Int) × (Int) × (Bool) × Unit) : M (Value) :=
 M.join (fun (j0_ : (Bool) × Unit) =>
 M.ite j0_.1
 (M.pure (.int .i64 2))
 (M.deref x.1 fun a2_ =>
 M.load (.cell .ptr) 1 (a2_.add 0) fun (x3_ : Option Addr) =>
 M.callS (.one (.cell .bool)) (X (.call 135 [(.pointer x3_)])) fun (r4_ : Bool) =>
 M.ite r4_
 (M.pure (.int .i64 8))
 (f120c0 X L x))) fun go1_ =>
 M.eqPtr x.1 none fun (q19_ : Bool) =>
 M.ite q19_
 (go1_ (true, ()))
 (M.deref x.1 fun a20_ =>
 M.load (.cell .ptr) 1 (a20_.add 0) fun (x21_ : Option Addr) =>
 M.eqPtr x21_ none fun (q22_ : Bool) =>
 go1_ (q22_, ()))
def f120 (X : Task → M Value) (L : LoopI) (x : (Option Addr) × (Int) × (Int) × (Int) × (Bool) × Unit) : M Value :=
 f120c1 X L x

theorem e120 (X : Task → M Value) (L : LoopI) (x : (Option Addr) × (Int) × (Int) × (Int) × (Bool) × Unit) : evBody CC { call := X, loop := L } 120 (shsInj [(.cell .ptr), (.cell (.int .i64)), (.cell (.int .i64)), (.cell (.int .u64)), (.cell .bool)] x) = f120 X L x := by kernel_rfl

/-- (*hayrick/array.Array).Ons -/
def f121c0 (X : Task → M Value) (L : LoopI) (x : (Option Addr) × Unit) (r0_ : Int) : M (Value) :=
 M.bind (L (σ := (Int) × (Int) × Unit) (ρ := ((Int) × Unit) ⊕ (Unit)) (fun s1_ =>
 M.ite (decide (s1_.2.1 < r0_))
 (M.join (fun (j3_ : (Int) × Unit) =>
 M.pure (.inl (j3_.1, (IntKind.i64.wrap (s1_.2.1 + 1)), ()))) fun go4_ =>
 M.callS (.one (.cell .bool)) (X (.call 124 [(.pointer x.1), (.int .i64 s1_.2.1)])) fun (r6_ : Bool) =>
 M.ite r6_
 (go4_ ((IntKind.i64.wrap (s1_.1 + 1)), ()))
 (go4_ (s1_.1, ())))
 (M.pure (.inr (.inl (s1_.1, ()))))) (0, 0, ())) <| M.sum (fun (j8_ : (Int) × Unit) =>
 M.pure (.int .i64 j8_.1)) (fun _ => M.stuck)
def f121 (X : Task → M Value) (L : LoopI) (x : (Option Addr) × Unit) : M Value :=
 M.callS (.one (.cell (.int .i64))) (X (.call 116 [(.pointer x.1)])) fun (r0_ : Int) =>
 f121c0 X L x r0_

theorem e121 (X : Task → M Value) (L : LoopI) (x : (Option Addr) × Unit) : evBody CC { call := X, loop := L } 121 (shsInj [(.cell .ptr)] x) = f121 X L x := by kernel_rfl

/-- hayrick/code.Encode -/
def f122c0 (X : Task → M Value) (L : LoopI) (x : (Int) × (Int) × ((Option Addr × Nat × Nat)) × Unit) (s2_ : ((Option Addr × Nat × Nat)) × (Int) × Unit) : M ((((Option Addr × Nat × Nat)) × (Int) × Unit) ⊕ ((((Option Addr × Nat × Nat)) × Unit) ⊕ (Unit))) :=
 M.callS (.one (.cell .slice)) (X (.call 138 [(.int .i64 x.1), (.int .i64 s2_.2.1)])) fun (r4_ : (Option Addr × Nat × Nat)) =>
 M.callS (.one (.cell .slice)) (X (.call 137 [(.slice r4_.1 r4_.2.1 r4_.2.2), (.slice x.2.2.1.1 x.2.2.1.2.1 x.2.2.1.2.2)])) fun (r5_ : (Option Addr × Nat × Nat)) =>
 M.new (.cells (Row.ofList [(.slice r5_.1 r5_.2.1 r5_.2.2)]) 49 false (0, 0) false) fun b6_ =>
 M.append 49 1 24 s2_.1.1 s2_.1.2.1 s2_.1.2.2 (.slice (some (Addr.mk b6_ 0 none)) 1 1) fun a7_ n8_ c9_ =>
 M.pure (.inl ((a7_, n8_, c9_), (IntKind.i64.wrap (s2_.2.1 + 1)), ()))
def f122c1 (X : Task → M Value) (L : LoopI) (x : (Int) × (Int) × ((Option Addr × Nat × Nat)) × Unit) : M (Value) :=
 M.join (fun (j0_ : (Bool) × Unit) =>
 M.ite j0_.1
 (M.pure (.tuple ⟨[(.slice none 0 0), (.int .i64 1)]⟩))
 (M.bind (L (σ := ((Option Addr × Nat × Nat)) × (Int) × Unit) (ρ := (((Option Addr × Nat × Nat)) × Unit) ⊕ (Unit)) (fun s2_ =>
 M.ite (decide (s2_.2.1 < x.2.1))
 (f122c0 X L x s2_)
 (M.pure (.inr (.inl (s2_.1, ()))))) ((none, 0, 0), 0, ())) <| M.sum (fun (j11_ : ((Option Addr × Nat × Nat)) × Unit) =>
 M.pure (.tuple ⟨[(.slice j11_.1.1 j11_.1.2.1 j11_.1.2.2), (.int .i64 0)]⟩)) (fun _ => M.stuck))) fun go1_ =>
 M.callS (.one (.cell .bool)) (X (.call 117 [(.int .i64 x.1), (.int .i64 x.2.1)])) fun (r12_ : Bool) =>
 M.ite (!r12_)
 (go1_ (true, ()))
 (M.ite (!(((x.2.2.1.2.1 : Nat) : Int) == x.1))
 (go1_ (true, ()))
 (M.callS (.one (.cell .bool)) (X (.call 136 [(.slice x.2.2.1.1 x.2.2.1.2.1 x.2.2.1.2.2)])) fun (r16_ : Bool) =>
 go1_ ((!r16_), ())))
def f122 (X : Task → M Value) (L : LoopI) (x : (Int) × (Int) × ((Option Addr × Nat × Nat)) × Unit) : M Value :=
 f122c1 X L x

theorem e122 (X : Task → M Value) (L : LoopI) (x : (Int) × (Int) × ((Option Addr × Nat × Nat)) × Unit) : evBody CC { call := X, loop := L } 122 (shsInj [(.cell (.int .i64)), (.cell (.int .i64)), (.cell .slice)] x) = f122 X L x := by kernel_rfl

/-- hayrick/stripe.parts -/
def f123c0 (X : Task → M Value) (L : LoopI) (x : ((Option Addr × Nat × Nat)) × Unit) (s0_ : ((Option Addr × Nat × Nat)) × (Int) × Unit) (v3_ : Int) (v4_ : Int) : M ((((Option Addr × Nat × Nat)) × (Int) × Unit) ⊕ ((((Option Addr × Nat × Nat)) × Unit) ⊕ (Unit))) :=
 M.guard (decide (0 ≤ v4_) && decide (v4_ ≤ ((x.1.2.2 : Nat) : Int)))
 (let v5_ : Nat := (Int.toNat v4_)
 M.guard (decide (0 ≤ v3_) && decide (v3_ ≤ ((v5_ : Nat) : Int)))
 (let v6_ : Nat := (Int.toNat v3_)
 M.guard (decide (0 ≤ s0_.2.1) && decide (s0_.2.1 ≤ ((v6_ : Nat) : Int)))
 (let v7_ : Nat := (Int.toNat s0_.2.1)
 M.new (.cells (Row.ofList [(.slice (x.1.1.map (·.add (v7_ * 1))) (v6_ - v7_) (v5_ - v7_))]) 49 false (0, 0) false) fun b8_ =>
 M.append 49 1 24 s0_.1.1 s0_.1.2.1 s0_.1.2.2 (.slice (some (Addr.mk b8_ 0 none)) 1 1) fun a9_ n10_ c11_ =>
 M.pure (.inl ((a9_, n10_, c11_), (IntKind.i64.wrap (s0_.2.1 + 448)), ())))))
def f123 (X : Task → M Value) (L : LoopI) (x : ((Option Addr × Nat × Nat)) × Unit) : M Value :=
 M.bind (L (σ := ((Option Addr × Nat × Nat)) × (Int) × Unit) (ρ := (((Option Addr × Nat × Nat)) × Unit) ⊕ (Unit)) (fun s0_ =>
 M.ite (decide (s0_.2.1 < ((x.1.2.1 : Nat) : Int)))
 (f123c0 X L x s0_ (IntKind.i64.wrap (s0_.2.1 + 448)) (IntKind.i64.wrap (s0_.2.1 + 448)))
 (M.pure (.inr (.inl (s0_.1, ()))))) ((none, 0, 0), 0, ())) <| M.sum (fun (j13_ : ((Option Addr × Nat × Nat)) × Unit) =>
 M.pure (.slice j13_.1.1 j13_.1.2.1 j13_.1.2.2)) (fun _ => M.stuck)

theorem e123 (X : Task → M Value) (L : LoopI) (x : ((Option Addr × Nat × Nat)) × Unit) : evBody CC { call := X, loop := L } 123 (shsInj [(.cell .slice)] x) = f123 X L x := by kernel_rfl

/-- (*hayrick/array.Array).On -/
def f124c0 (X : Task → M Value) (L : LoopI) (x : (Option Addr) × (Int) × Unit) (go1_ : ((Bool) × Unit) → M (Value)) : M (Value) :=
 M.deref x.1 fun a5_ =>
 M.load (.cell .slice) 1 (a5_.add 1) fun (x6_ : (Option Addr × Nat × Nat)) =>
 M.ite (decide (x.2.1 < ((x6_.2.1 : Nat) : Int)))
 (M.deref x.1 fun a9_ =>
 M.load (.cell .slice) 1 (a9_.add 1) fun (x10_ : (Option Addr × Nat × Nat)) =>
 M.guard (decide (0 ≤ x.2.1) && decide (x.2.1 < ((x10_.2.1 : Nat) : Int)))
 (M.deref x10_.1 fun a11_ =>
 M.load (.cell .slice) 1 (a11_.add ((Int.toNat x.2.1) * 1)) fun (x12_ : (Option Addr × Nat × Nat)) =>
 go1_ ((!x12_.1.isNone), ())))
 (go1_ (false, ()))
def f124 (X : Task → M Value) (L : LoopI) (x : (Option Addr) × (Int) × Unit) : M Value :=
 M.join (fun (j0_ : (Bool) × Unit) =>
 M.pure (.bool j0_.1)) fun go1_ =>
 M.eqPtr x.1 none fun (q2_ : Bool) =>
 M.ite (!q2_)
 (M.ite (decide (x.2.1 ≥ 0))
 (f124c0 X L x go1_)
 (go1_ (false, ())))
 (go1_ (false, ()))

theorem e124 (X : Task → M Value) (L : LoopI) (x : (Option Addr) × (Int) × Unit) : evBody CC { call := X, loop := L } 124 (shsInj [(.cell .ptr), (.cell (.int .i64))] x) = f124 X L x := by kernel_rfl

/-- (*hayrick/stripe.Stripes).put -/
def f125c0 (X : Task → M Value) (L : LoopI) (x : (Option Addr) × (Int) × (Int) × (Int) × ((Option Addr × Nat × Nat)) × Unit) (s3_ : (Int) × Unit) (x6_ : (Option Addr × Nat × Nat)) (a7_ : Addr) : M (((Int) × Unit) ⊕ ((Unit) ⊕ (((Int) × Unit) ⊕ (Unit)))) :=
 M.load (.cell .ptr) 1 (a7_.add 0) fun (x8_ : Option Addr) =>
 M.deref x.1 fun a9_ =>
 M.load (.cell (.int .i64)) 1 (a9_.add 4) fun (x10_ : Int) =>
 M.callS (.one (.cell (.int .i64))) (X (.call 140 [(.pointer x8_), (.int .i64 x.2.1), (.int .i64 (IntKind.i64.wrap ((IntKind.i64.wrap (x10_ + (IntKind.i64.wrap (x.2.2.1 * 8)))) + s3_.1))), (.slice x6_.1 x6_.2.1 x6_.2.2)])) fun (r14_ : Int) =>
 M.ite (!(r14_ == 0))
 (M.pure (.inr (.inr (.inl (r14_, ())))))
 (M.pure (.inl ((IntKind.i64.wrap (s3_.1 + 1)), ())))
def f125c1 (X : Task → M Value) (L : LoopI) (x : (Option Addr) × (Int) × (Int) × (Int) × ((Option Addr × Nat × Nat)) × Unit) (r0_ : ((Option Addr × Nat × Nat)) × (Int) × Unit) (v2_ : Int) : M (Value) :=
 M.bind (L (σ := (Int) × Unit) (ρ := (Unit) ⊕ (((Int) × Unit) ⊕ (Unit))) (fun s3_ =>
 M.ite (decide (s3_.1 < v2_))
 (M.guard (decide (0 ≤ s3_.1) && decide (s3_.1 < ((r0_.1.2.1 : Nat) : Int)))
 (M.deref r0_.1.1 fun a5_ =>
 M.load (.cell .slice) 1 (a5_.add ((Int.toNat s3_.1) * 1)) fun (x6_ : (Option Addr × Nat × Nat)) =>
 M.deref x.1 fun a7_ =>
 f125c0 X L x s3_ x6_ a7_))
 (M.pure (.inr (.inl (()))))) (0, ())) <| M.sum (fun (j17_ : Unit) =>
 M.pure (.int .i64 0)) (M.sum (fun (j18_ : (Int) × Unit) =>
 M.pure (.int .i64 j18_.1)) (fun _ => M.stuck))
def f125 (X : Task → M Value) (L : LoopI) (x : (Option Addr) × (Int) × (Int) × (Int) × ((Option Addr × Nat × Nat)) × Unit) : M Value :=
 M.callS (.tuple [(.cell .slice), (.cell (.int .i64))]) (X (.call 139 [(.int .u64 x.2.2.2.1), (.slice x.2.2.2.2.1.1 x.2.2.2.2.1.2.1 x.2.2.2.2.1.2.2)])) fun (r0_ : ((Option Addr × Nat × Nat)) × (Int) × Unit) =>
 M.ite (!(r0_.2.1 == 0))
 (M.pure (.int .i64 r0_.2.1))
 (f125c1 X L x r0_ ((r0_.1.2.1 : Nat) : Int))

theorem e125 (X : Task → M Value) (L : LoopI) (x : (Option Addr) × (Int) × (Int) × (Int) × ((Option Addr × Nat × Nat)) × Unit) : evBody CC { call := X, loop := L } 125 (shsInj [(.cell .ptr), (.cell (.int .i64)), (.cell (.int .i64)), (.cell (.int .u64)), (.cell .slice)] x) = f125 X L x := by kernel_rfl

/-- math/bits.Mul32 -/
def f126 (X : Task → M Value) (L : LoopI) (x : (Int) × (Int) × Unit) : M Value :=
 let v2_ : Int := IntKind.u64.wrap ((IntKind.u64.wrap x.1) * (IntKind.u64.wrap x.2.1))
 M.guard (decide (0 ≤ 32))
 (M.pure (.tuple ⟨[(.int .u32 (IntKind.u32.wrap (((v2_ : Int)).fdiv (2 ^ (min (Int.toNat 32) IntKind.u64.bits))))), (.int .u32 (IntKind.u32.wrap v2_))]⟩))

theorem e126 (X : Task → M Value) (L : LoopI) (x : (Int) × (Int) × Unit) : evBody CC { call := X, loop := L } 126 (shsInj [(.cell (.int .u32)), (.cell (.int .u32))] x) = f126 X L x := by kernel_rfl

/-- math/bits.Mul64 -/
def f127c0 (X : Task → M Value) (L : LoopI) (x : (Int) × (Int) × Unit) (v0_ : Int) (v1_ : Int) (v3_ : Int) (v4_ : Int) (v5_ : Int) : M (Value) :=
 M.guard (decide (0 ≤ 32))
 (let v7_ : Int := IntKind.u64.wrap (v5_ + (((v4_ : Int)).fdiv (2 ^ (min (Int.toNat 32) IntKind.u64.bits))))
 M.guard (decide (0 ≤ 32))
 (M.guard (decide (0 ≤ 32))
 (M.pure (.tuple ⟨[(.int .u64 (IntKind.u64.wrap ((IntKind.u64.wrap ((IntKind.u64.wrap (v1_ * v3_)) + (((v7_ : Int)).fdiv (2 ^ (min (Int.toNat 32) IntKind.u64.bits))))) + ((((IntKind.u64.wrap ((bitsV .and .u64 v7_ 4294967295) + (IntKind.u64.wrap (v0_ * v3_)))) : Int)).fdiv (2 ^ (min (Int.toNat 32) IntKind.u64.bits)))))), (.int .u64 (IntKind.u64.wrap (x.1 * x.2.1)))]⟩))))
def f127 (X : Task → M Value) (L : LoopI) (x : (Int) × (Int) × Unit) : M Value :=
 let v0_ : Int := bitsV .and .u64 x.1 4294967295
 M.guard (decide (0 ≤ 32))
 (let v1_ : Int := ((x.1 : Int)).fdiv (2 ^ (min (Int.toNat 32) IntKind.u64.bits))
 let v2_ : Int := bitsV .and .u64 x.2.1 4294967295
 M.guard (decide (0 ≤ 32))
 (f127c0 X L x v0_ v1_ (((x.2.1 : Int)).fdiv (2 ^ (min (Int.toNat 32) IntKind.u64.bits))) (IntKind.u64.wrap (v0_ * v2_)) (IntKind.u64.wrap (v1_ * v2_))))

theorem e127 (X : Task → M Value) (L : LoopI) (x : (Int) × (Int) × Unit) : evBody CC { call := X, loop := L } 127 (shsInj [(.cell (.int .u64)), (.cell (.int .u64))] x) = f127 X L x := by kernel_rfl

/-- (*hayrick/stripe.Stripes).each -/
def f128c0 (X : Task → M Value) (L : LoopI) (x : (Option Addr) × (Int) × (Value) × Unit) (x1_ : Int) : M (Value) :=
 M.bind (L (σ := (Int) × Unit) (ρ := (Unit) ⊕ (Unit)) (fun s2_ =>
 M.ite (decide (s2_.1 < x1_))
 (M.join (fun (j4_ : Unit) =>
 M.pure (.inl ((IntKind.i64.wrap (s2_.1 + 1)), ()))) fun go5_ =>
 M.callS (.one (.cell .slice)) (X (.call 141 [(.pointer x.1), (.int .i64 s2_.1), (.int .i64 x.2.1)])) fun (r7_ : (Option Addr × Nat × Nat)) =>
 M.ite (!r7_.1.isNone)
 (callV CC ⟨X, L⟩ x.2.2.1 [(.int .i64 s2_.1), (.slice r7_.1 r7_.2.1 r7_.2.2)] fun w10_ => M.need (RSh.prj (.tuple []) w10_) fun (r9_ : Unit) =>
 go5_ (()))
 (go5_ (())))
 (M.pure (.inr (.inl (()))))) (0, ())) <| M.sum (fun (j11_ : Unit) =>
 M.pure (.tuple ⟨[]⟩)) (fun _ => M.stuck)
def f128 (X : Task → M Value) (L : LoopI) (x : (Option Addr) × (Int) × (Value) × Unit) : M Value :=
 M.deref x.1 fun a0_ =>
 M.load (.cell (.int .i64)) 1 ((a0_.add 1).add 1) fun (x1_ : Int) =>
 f128c0 X L x x1_

theorem e128 (X : Task → M Value) (L : LoopI) (x : (Option Addr) × (Int) × (Value) × Unit) : evBody CC { call := X, loop := L } 128 (shsInj [(.cell .ptr), (.cell (.int .i64)), (.cell .val)] x) = f128 X L x := by kernel_rfl

/-- (*hayrick/stripe.Stripes).Read$1 -/
def f129c0 (X : Task → M Value) (L : LoopI) (x : (Int) × ((Option Addr × Nat × Nat)) × (Option Addr) × (Option Addr) × (Option Addr) × (Option Addr) × Unit) (x4_ : (Option Addr × Nat × Nat)) (b5_ : Nat) (x7_ : (Option Addr × Nat × Nat)) (b8_ : Nat) : M (Value) :=
 M.append 3 1 8 x4_.1 x4_.2.1 x4_.2.2 (.slice (some (Addr.mk b5_ 0 none)) 1 1) fun a9_ n10_ c11_ =>
 M.deref x.2.2.2.2.2.1 fun a12_ =>
 M.load (.cell .slice) 1 a12_ fun (x13_ : (Option Addr × Nat × Nat)) => cond (veqv (.slice x13_.1 x13_.2.1 x13_.2.2) (.slice x7_.1 x7_.2.1 x7_.2.2)) (M.append 49 1 24 x7_.1 x7_.2.1 x7_.2.2 (.slice (some (Addr.mk b8_ 0 none)) 1 1) fun a14_ n15_ c16_ =>
 M.deref x.2.2.2.1 fun a17_ =>
 M.store a17_ [(.slice a9_ n10_ c11_)]
 (M.deref x.2.2.2.2.2.1 fun a18_ =>
 M.store a18_ [(.slice a14_ n15_ c16_)]
 (M.pure (.tuple ⟨[]⟩)))) M.stuck
def f129c1 (X : Task → M Value) (L : LoopI) (x : (Int) × ((Option Addr × Nat × Nat)) × (Option Addr) × (Option Addr) × (Option Addr) × (Option Addr) × Unit) (r0_ : (Int) × ((Option Addr × Nat × Nat)) × (Bool) × Unit) : M (Value) :=
 M.join (fun (j1_ : (Bool) × Unit) =>
 M.ite j1_.1
 (M.deref x.2.2.2.1 fun a3_ =>
 M.load (.cell .slice) 1 a3_ fun (x4_ : (Option Addr × Nat × Nat)) =>
 M.new (.cells (Row.ofList [(.int .i64 x.1)]) 3 false (0, 0) false) fun b5_ =>
 M.deref x.2.2.2.2.2.1 fun a6_ =>
 M.load (.cell .slice) 1 a6_ fun (x7_ : (Option Addr × Nat × Nat)) =>
 M.new (.cells (Row.ofList [(.slice r0_.2.1.1 r0_.2.1.2.1 r0_.2.1.2.2)]) 49 false (0, 0) false) fun b8_ =>
 f129c0 X L x x4_ b5_ x7_ b8_)
 (M.pure (.tuple ⟨[]⟩))) fun go2_ =>
 M.ite r0_.2.2.1
 (M.deref x.2.2.1 fun a19_ =>
 M.load (.cell (.int .u64)) 1 a19_ fun (x20_ : Int) =>
 M.ite (r0_.1 == x20_)
 (M.deref x.2.2.2.1 fun a22_ =>
 M.load (.cell .slice) 1 a22_ fun (x23_ : (Option Addr × Nat × Nat)) =>
 M.deref x.2.2.2.2.1 fun a25_ =>
 M.load (.cell .ptr) 1 a25_ fun (x26_ : Option Addr) =>
 M.deref x26_ fun a27_ =>
 M.load (.cell (.int .i64)) 1 ((a27_.add 1).add 0) fun (x28_ : Int) =>
 go2_ ((decide (((x23_.2.1 : Nat) : Int) < x28_)), ()))
 (go2_ (false, ())))
 (go2_ (false, ()))
def f129 (X : Task → M Value) (L : LoopI) (x : (Int) × ((Option Addr × Nat × Nat)) × (Option Addr) × (Option Addr) × (Option Addr) × (Option Addr) × Unit) : M Value :=
 M.callS (.tuple [(.cell (.int .u64)), (.cell .slice), (.cell .bool)]) (X (.call 130 [(.slice x.2.1.1 x.2.1.2.1 x.2.1.2.2)])) fun (r0_ : (Int) × ((Option Addr × Nat × Nat)) × (Bool) × Unit) =>
 f129c1 X L x r0_

theorem e129 (X : Task → M Value) (L : LoopI) (x : (Int) × ((Option Addr × Nat × Nat)) × (Option Addr) × (Option Addr) × (Option Addr) × (Option Addr) × Unit) : evBody CC { call := X, loop := L } 129 (shsInj [(.cell (.int .i64)), (.cell .slice), (.cell .ptr), (.cell .ptr), (.cell .ptr), (.cell .ptr)] x) = f129 X L x := by kernel_rfl

/-- hayrick/chunk.Take -/
def f130c0 (X : Task → M Value) (L : LoopI) (x : ((Option Addr × Nat × Nat)) × Unit) (b5_ : Nat) (b6_ : Nat) : M (Value) :=
 M.callS (.one (.cell .bool)) (X (.call 144 [(.slice x.1.1 x.1.2.1 x.1.2.2), (.func (.func 143) ⟨[]⟩ ⟨[(.pointer (some (Addr.mk b6_ 0 none))), (.pointer (some (Addr.mk b5_ 0 none)))]⟩)])) fun (r7_ : Bool) =>
 M.ite r7_
 (M.pure (.tuple ⟨[(.int .u64 0), (.slice none 0 0), (.bool false)]⟩))
 (M.load (.cell (.int .u64)) 1 (Addr.mk b5_ 0 none) fun (x8_ : Int) =>
 M.load (.cell .slice) 1 (Addr.mk b6_ 0 none) fun (x9_ : (Option Addr × Nat × Nat)) =>
 M.load (.cell .slice) 1 (Addr.mk b6_ 0 none) fun (x10_ : (Option Addr × Nat × Nat)) => cond (veqv (.slice x10_.1 x10_.2.1 x10_.2.2) (.slice x9_.1 x9_.2.1 x9_.2.2)) (M.pure (.tuple ⟨[(.int .u64 x8_), (.slice x9_.1 x9_.2.1 x9_.2.2), (.bool true)]⟩)) M.stuck)
def f130c1 (X : Task → M Value) (L : LoopI) (x : ((Option Addr × Nat × Nat)) × Unit) (a2_ : Addr) : M (Value) :=
 M.load (.cell .slice) 1 (a2_.add ((Int.toNat 0) * 1)) fun (x3_ : (Option Addr × Nat × Nat)) =>
 M.callS (.tuple [(.cell (.int .u64)), (.cell .slice), (.cell (.int .i64))]) (X (.call 142 [(.slice x3_.1 x3_.2.1 x3_.2.2)])) fun (r4_ : (Int) × ((Option Addr × Nat × Nat)) × (Int) × Unit) =>
 M.new (.cells (Row.ofList [(.int .u64 0)]) 75 false (0, 0) false) fun b5_ =>
 M.store (Addr.mk b5_ 0 none) [(.int .u64 r4_.1)]
 (M.new (.cells (Row.ofList [(.slice none 0 0)]) 49 false (0, 0) false) fun b6_ =>
 f130c0 X L x b5_ b6_)
def f130 (X : Task → M Value) (L : LoopI) (x : ((Option Addr × Nat × Nat)) × Unit) : M Value :=
 M.join (fun (j0_ : (Bool) × Unit) =>
 M.ite j0_.1
 (M.pure (.tuple ⟨[(.int .u64 0), (.slice none 0 0), (.bool false)]⟩))
 (M.guard (decide (0 ≤ 0) && decide (0 < ((x.1.2.1 : Nat) : Int)))
 (M.deref x.1.1 fun a2_ =>
 f130c1 X L x a2_))) fun go1_ =>
 M.ite (((x.1.2.1 : Nat) : Int) == 0)
 (go1_ (true, ()))
 (go1_ ((decide (((x.1.2.1 : Nat) : Int) > 64)), ()))

theorem e130 (X : Task → M Value) (L : LoopI) (x : ((Option Addr × Nat × Nat)) × Unit) : evBody CC { call := X, loop := L } 130 (shsInj [(.cell .slice)] x) = f130 X L x := by kernel_rfl

/-- hayrick/code.Decode -/
def f131c0 (X : Task → M Value) (L : LoopI) (x : (Int) × (Int) × ((Option Addr × Nat × Nat)) × ((Option Addr × Nat × Nat)) × Unit) (b2_ : Nat) (s4_ : (Int) × Unit) (x7_ : Int) : M (((Int) × Unit) ⊕ ((Unit) ⊕ ((((Option Addr × Nat × Nat)) × (Int) × Unit) ⊕ (Unit)))) :=
 M.join (fun (j8_ : (Bool) × Unit) =>
 M.ite j8_.1
 (M.pure (.inr (.inr (.inl ((none, 0, 0), 1, ())))))
 (M.guard (decide (0 ≤ x7_) && decide (x7_ < ((255 : Nat) : Int)))
 (M.store ((Addr.mk b2_ 0 none).add ((Int.toNat x7_) * 1)) [(.bool true)]
 (M.pure (.inl ((IntKind.i64.wrap (s4_.1 + 1)), ())))))) fun go9_ =>
 M.ite (decide (x7_ < 0))
 (go9_ (true, ()))
 (M.ite (decide (x7_ ≥ x.2.1))
 (go9_ (true, ()))
 (M.guard (decide (0 ≤ x7_) && decide (x7_ < ((255 : Nat) : Int)))
 (M.load (.cell .bool) 1 ((Addr.mk b2_ 0 none).add ((Int.toNat x7_) * 1)) fun (x13_ : Bool) =>
 go9_ (x13_, ()))))
def f131c1 (X : Task → M Value) (L : LoopI) (x : (Int) × (Int) × ((Option Addr × Nat × Nat)) × ((Option Addr × Nat × Nat)) × Unit) (v17_ : Nat) (s19_ : ((Option Addr × Nat × Nat)) × (Int) × Unit) : M ((((Option Addr × Nat × Nat)) × (Int) × Unit) ⊕ ((((Option Addr × Nat × Nat)) × Unit) ⊕ (Unit))) :=
 M.guard (decide (0 ≤ s19_.2.1) && decide (s19_.2.1 < (((v17_ - 0) : Nat) : Int)))
 (M.deref (x.2.2.1.1.map (·.add (0 * 1))) fun a21_ =>
 M.load (.cell (.int .i64)) 1 (a21_.add ((Int.toNat s19_.2.1) * 1)) fun (x22_ : Int) =>
 M.callS (.one (.cell .slice)) (X (.call 138 [(.int .i64 x.1), (.int .i64 x22_)])) fun (r23_ : (Option Addr × Nat × Nat)) =>
 M.new (.cells (Row.ofList [(.slice r23_.1 r23_.2.1 r23_.2.2)]) 49 false (0, 0) false) fun b24_ =>
 M.append 49 1 24 s19_.1.1 s19_.1.2.1 s19_.1.2.2 (.slice (some (Addr.mk b24_ 0 none)) 1 1) fun a25_ n26_ c27_ =>
 M.pure (.inl ((a25_, n26_, c27_), (IntKind.i64.wrap (s19_.2.1 + 1)), ())))
def f131c2 (X : Task → M Value) (L : LoopI) (x : (Int) × (Int) × ((Option Addr × Nat × Nat)) × ((Option Addr × Nat × Nat)) × Unit) (b32_ : Nat) (s34_ : (Int) × Unit) (x40_ : (Option Addr × Nat × Nat)) (x42_ : (Option Addr × Nat × Nat)) (v43_ : Nat) : M (((Int) × Unit) ⊕ ((Unit) ⊕ (Unit))) :=
 M.callS (.one (.cell .slice)) (X (.call 137 [(.slice x42_.1 x42_.2.1 x42_.2.2), (.slice (x.2.2.2.1.1.map (·.add (0 * 1))) (v43_ - 0) (x.2.2.2.1.2.2 - 0))])) fun (r44_ : (Option Addr × Nat × Nat)) =>
 M.load (.cell .slice) 1 ((Addr.mk b32_ 0 none).add ((Int.toNat s34_.1) * 1)) fun (x45_ : (Option Addr × Nat × Nat)) => cond (veqv (.slice x45_.1 x45_.2.1 x45_.2.2) (.slice x40_.1 x40_.2.1 x40_.2.2)) (M.copy 1 x40_.1 x40_.2.1 (.slice r44_.1 r44_.2.1 r44_.2.2) fun m46_ =>
 M.pure (.inl ((IntKind.i64.wrap (s34_.1 + 1)), ()))) M.stuck
def f131c3 (X : Task → M Value) (L : LoopI) (x : (Int) × (Int) × ((Option Addr × Nat × Nat)) × ((Option Addr × Nat × Nat)) × Unit) (r30_ : ((Option Addr × Nat × Nat)) × (Int) × Unit) (b32_ : Nat) (s34_ : (Int) × Unit) : M (((Int) × Unit) ⊕ ((Unit) ⊕ (Unit))) :=
 M.guard (decide (0 ≤ s34_.1) && decide (s34_.1 < (((Int.toNat x.1) : Nat) : Int)))
 (M.load (.cell .slice) 1 ((Addr.mk b32_ 0 none).add ((Int.toNat s34_.1) * 1)) fun (x40_ : (Option Addr × Nat × Nat)) =>
 M.guard (decide (0 ≤ s34_.1) && decide (s34_.1 < ((r30_.1.2.1 : Nat) : Int)))
 (M.deref r30_.1.1 fun a41_ =>
 M.load (.cell .slice) 1 (a41_.add ((Int.toNat s34_.1) * 1)) fun (x42_ : (Option Addr × Nat × Nat)) =>
 M.guard (decide (0 ≤ x.1) && decide (x.1 ≤ ((x.2.2.2.1.2.2 : Nat) : Int)))
 (f131c2 X L x b32_ s34_ x40_ x42_ (Int.toNat x.1))))
def f131c4 (X : Task → M Value) (L : LoopI) (x : (Int) × (Int) × ((Option Addr × Nat × Nat)) × ((Option Addr × Nat × Nat)) × Unit) (r30_ : ((Option Addr × Nat × Nat)) × (Int) × Unit) (b32_ : Nat) (s34_ : (Int) × Unit) (a36_ : Addr) : M (((Int) × Unit) ⊕ ((Unit) ⊕ (Unit))) :=
 M.load (.cell .slice) 1 (a36_.add ((Int.toNat 0) * 1)) fun (x37_ : (Option Addr × Nat × Nat)) =>
 let v38_ : Int := ((x37_.2.1 : Nat) : Int)
 M.guard (decide (0 ≤ v38_) && decide (v38_ ≤ v38_) && decide ((1 : Int) * v38_ ≤ 2 ^ 48))
 (M.new (.cells (Row.rep [(.int .u8 0)] (Int.toNat v38_)) 5 false (0, 0) false) fun b39_ =>
 M.guard (decide (0 ≤ s34_.1) && decide (s34_.1 < (((Int.toNat x.1) : Nat) : Int)))
 (M.store ((Addr.mk b32_ 0 none).add ((Int.toNat s34_.1) * 1)) [(.slice (some (Addr.mk b39_ 0 none)) (Int.toNat v38_) (Int.toNat v38_))]
 (f131c3 X L x r30_ b32_ s34_)))
def f131c5 (X : Task → M Value) (L : LoopI) (x : (Int) × (Int) × ((Option Addr × Nat × Nat)) × ((Option Addr × Nat × Nat)) × Unit) (r30_ : ((Option Addr × Nat × Nat)) × (Int) × Unit) : M (Value) :=
 M.guard (decide (0 ≤ x.1) && decide (x.1 ≤ x.1) && decide ((24 : Int) * x.1 ≤ 2 ^ 48))
 (M.new (.cells (Row.rep [(.slice none 0 0)] (Int.toNat x.1)) 49 false (0, 0) false) fun b32_ =>
 M.bind (L (σ := (Int) × Unit) (ρ := (Unit) ⊕ (Unit)) (fun s34_ =>
 M.ite (decide (s34_.1 < (((Int.toNat x.1) : Nat) : Int)))
 (M.guard (decide (0 ≤ 0) && decide (0 < ((x.2.2.2.1.2.1 : Nat) : Int)))
 (M.deref x.2.2.2.1.1 fun a36_ =>
 f131c4 X L x r30_ b32_ s34_ a36_))
 (M.pure (.inr (.inl (()))))) (0, ())) <| M.sum (fun (j48_ : Unit) =>
 M.pure (.tuple ⟨[(.slice (some (Addr.mk b32_ 0 none)) (Int.toNat x.1) (Int.toNat x.1)), (.int .i64 0)]⟩)) (fun _ => M.stuck))
def f131c6 (X : Task → M Value) (L : LoopI) (x : (Int) × (Int) × ((Option Addr × Nat × Nat)) × ((Option Addr × Nat × Nat)) × Unit) (v17_ : Nat) (v18_ : Int) : M (Value) :=
 M.bind (L (σ := ((Option Addr × Nat × Nat)) × (Int) × Unit) (ρ := (((Option Addr × Nat × Nat)) × Unit) ⊕ (Unit)) (fun s19_ =>
 M.ite (decide (s19_.2.1 < v18_))
 (f131c1 X L x v17_ s19_)
 (M.pure (.inr (.inl (s19_.1, ()))))) ((none, 0, 0), 0, ())) <| M.sum (fun (j29_ : ((Option Addr × Nat × Nat)) × Unit) =>
 M.callS (.tuple [(.cell .slice), (.cell (.int .i64))]) (X (.call 145 [(.slice j29_.1.1 j29_.1.2.1 j29_.1.2.2)])) fun (r30_ : ((Option Addr × Nat × Nat)) × (Int) × Unit) =>
 M.ite (!(r30_.2.1 == 0))
 (M.pure (.tuple ⟨[(.slice none 0 0), (.int .i64 r30_.2.1)]⟩))
 (f131c5 X L x r30_)) (fun _ => M.stuck)
def f131c7 (X : Task → M Value) (L : LoopI) (x : (Int) × (Int) × ((Option Addr × Nat × Nat)) × ((Option Addr × Nat × Nat)) × Unit) (b2_ : Nat) (v3_ : Int) : M (Value) :=
 M.bind (L (σ := (Int) × Unit) (ρ := (Unit) ⊕ ((((Option Addr × Nat × Nat)) × (Int) × Unit) ⊕ (Unit))) (fun s4_ =>
 M.ite (decide (s4_.1 < v3_))
 (M.guard (decide (0 ≤ s4_.1) && decide (s4_.1 < ((x.2.2.1.2.1 : Nat) : Int)))
 (M.deref x.2.2.1.1 fun a6_ =>
 M.load (.cell (.int .i64)) 1 (a6_.add ((Int.toNat s4_.1) * 1)) fun (x7_ : Int) =>
 f131c0 X L x b2_ s4_ x7_))
 (M.pure (.inr (.inl (()))))) (0, ())) <| M.sum (fun (j14_ : Unit) =>
 M.ite (decide (((x.2.2.1.2.1 : Nat) : Int) < x.1))
 (M.pure (.tuple ⟨[(.slice none 0 0), (.int .i64 4)]⟩))
 (M.guard (decide (0 ≤ x.1) && decide (x.1 ≤ ((x.2.2.1.2.2 : Nat) : Int)))
 (let v17_ : Nat := (Int.toNat x.1)
 f131c6 X L x v17_ (((v17_ - 0) : Nat) : Int)))) (M.sum (fun (j49_ : ((Option Addr × Nat × Nat)) × (Int) × Unit) =>
 M.pure (.tuple ⟨[(.slice j49_.1.1 j49_.1.2.1 j49_.1.2.2), (.int .i64 j49_.2.1)]⟩)) (fun _ => M.stuck))
def f131c8 (X : Task → M Value) (L : LoopI) (x : (Int) × (Int) × ((Option Addr × Nat × Nat)) × ((Option Addr × Nat × Nat)) × Unit) : M (Value) :=
 M.join (fun (j0_ : (Bool) × Unit) =>
 M.ite j0_.1
 (M.pure (.tuple ⟨[(.slice none 0 0), (.int .i64 1)]⟩))
 (M.new (.cells (Row.ofList (zc 242)) 242 false (0, 0) false) fun b2_ =>
 f131c7 X L x b2_ ((x.2.2.1.2.1 : Nat) : Int))) fun go1_ =>
 M.callS (.one (.cell .bool)) (X (.call 117 [(.int .i64 x.1), (.int .i64 x.2.1)])) fun (r50_ : Bool) =>
 M.ite (!r50_)
 (go1_ (true, ()))
 (M.ite (!(((x.2.2.1.2.1 : Nat) : Int) == ((x.2.2.2.1.2.1 : Nat) : Int)))
 (go1_ (true, ()))
 (M.callS (.one (.cell .bool)) (X (.call 136 [(.slice x.2.2.2.1.1 x.2.2.2.1.2.1 x.2.2.2.1.2.2)])) fun (r55_ : Bool) =>
 go1_ ((!r55_), ())))
def f131 (X : Task → M Value) (L : LoopI) (x : (Int) × (Int) × ((Option Addr × Nat × Nat)) × ((Option Addr × Nat × Nat)) × Unit) : M Value :=
 f131c8 X L x

theorem e131 (X : Task → M Value) (L : LoopI) (x : (Int) × (Int) × ((Option Addr × Nat × Nat)) × ((Option Addr × Nat × Nat)) × Unit) : evBody CC { call := X, loop := L } 131 (shsInj [(.cell (.int .i64)), (.cell (.int .i64)), (.cell .slice), (.cell .slice)] x) = f131 X L x := by kernel_rfl

/-- slices.pdqsortOrdered[int] -/
def f132c0 (X : Task → M Value) (L : LoopI) (x : ((Option Addr × Nat × Nat)) × (Int) × (Int) × (Int) × Unit) (s0_ : (Int) × (Int) × (Int) × (Bool) × (Bool) × Unit) (go2_ : ((Int) × (Int) × (Int) × (Bool) × (Bool) × Unit) → M (((Int) × (Int) × (Int) × (Bool) × (Bool) × Unit) ⊕ ((Unit) ⊕ (Unit)))) (j8_ : (Int) × Unit) (r18_ : (Int) × (Bool) × Unit) (v19_ : Int) (v20_ : Int) (v21_ : Int) : M (((Int) × (Int) × (Int) × (Bool) × (Bool) × Unit) ⊕ ((Unit) ⊕ (Unit))) :=
 M.ite (decide (v19_ < v20_))
 (M.callS (.tuple []) (X (.call 132 [(.slice x.1.1 x.1.2.1 x.1.2.2), (.int .i64 s0_.1), (.int .i64 r18_.1), (.int .i64 j8_.1)])) fun (r24_ : Unit) =>
 go2_ ((IntKind.i64.wrap (r18_.1 + 1)), s0_.2.1, j8_.1, (decide (v19_ ≥ v21_)), r18_.2.1, ()))
 (M.callS (.tuple []) (X (.call 132 [(.slice x.1.1 x.1.2.1 x.1.2.2), (.int .i64 (IntKind.i64.wrap (r18_.1 + 1))), (.int .i64 s0_.2.1), (.int .i64 j8_.1)])) fun (r28_ : Unit) =>
 go2_ (s0_.1, r18_.1, j8_.1, (decide (v20_ ≥ v21_)), r18_.2.1, ()))
def f132c1 (X : Task → M Value) (L : LoopI) (x : ((Option Addr × Nat × Nat)) × (Int) × (Int) × (Int) × Unit) (s0_ : (Int) × (Int) × (Int) × (Bool) × (Bool) × Unit) (go2_ : ((Int) × (Int) × (Int) × (Bool) × (Bool) × Unit) → M (((Int) × (Int) × (Int) × (Bool) × (Bool) × Unit) ⊕ ((Unit) ⊕ (Unit)))) (v3_ : Int) (j8_ : (Int) × Unit) (j11_ : (Int) × (Int) × Unit) (j15_ : (Bool) × Unit) : M (((Int) × (Int) × (Int) × (Bool) × (Bool) × Unit) ⊕ ((Unit) ⊕ (Unit))) :=
 M.ite j15_.1
 (M.callS (.one (.cell (.int .i64))) (X (.call 153 [(.slice x.1.1 x.1.2.1 x.1.2.2), (.int .i64 s0_.1), (.int .i64 s0_.2.1), (.int .i64 j11_.1)])) fun (r17_ : Int) =>
 go2_ (r17_, s0_.2.1, j8_.1, s0_.2.2.2.1, s0_.2.2.2.2.1, ()))
 (M.callS (.tuple [(.cell (.int .i64)), (.cell .bool)]) (X (.call 154 [(.slice x.1.1 x.1.2.1 x.1.2.2), (.int .i64 s0_.1), (.int .i64 s0_.2.1), (.int .i64 j11_.1)])) fun (r18_ : (Int) × (Bool) × Unit) =>
 M.guard (!(decide (8 = 0)))
 (f132c0 X L x s0_ go2_ j8_ r18_ (IntKind.i64.wrap (r18_.1 - s0_.1)) (IntKind.i64.wrap (s0_.2.1 - r18_.1)) (IntKind.i64.wrap ((v3_ : Int).tdiv 8))))
def f132c2 (X : Task → M Value) (L : LoopI) (x : ((Option Addr × Nat × Nat)) × (Int) × (Int) × (Int) × Unit) (s0_ : (Int) × (Int) × (Int) × (Bool) × (Bool) × Unit) (j11_ : (Int) × (Int) × Unit) (go16_ : ((Bool) × Unit) → M (((Int) × (Int) × (Int) × (Bool) × (Bool) × Unit) ⊕ ((Unit) ⊕ (Unit)))) : M (((Int) × (Int) × (Int) × (Bool) × (Bool) × Unit) ⊕ ((Unit) ⊕ (Unit))) :=
 let v30_ : Int := IntKind.i64.wrap (s0_.1 - 1)
 M.guard (decide (0 ≤ v30_) && decide (v30_ < ((x.1.2.1 : Nat) : Int)))
 (M.deref x.1.1 fun a31_ =>
 M.load (.cell (.int .i64)) 1 (a31_.add ((Int.toNat v30_) * 1)) fun (x32_ : Int) =>
 M.guard (decide (0 ≤ j11_.1) && decide (j11_.1 < ((x.1.2.1 : Nat) : Int)))
 (M.deref x.1.1 fun a33_ =>
 M.load (.cell (.int .i64)) 1 (a33_.add ((Int.toNat j11_.1) * 1)) fun (x34_ : Int) =>
 M.callS (.one (.cell .bool)) (X (.call 152 [(.int .i64 x32_), (.int .i64 x34_)])) fun (r35_ : Bool) =>
 go16_ ((!r35_), ())))
def f132c3 (X : Task → M Value) (L : LoopI) (x : ((Option Addr × Nat × Nat)) × (Int) × (Int) × (Int) × Unit) (s0_ : (Int) × (Int) × (Int) × (Bool) × (Bool) × Unit) (go2_ : ((Int) × (Int) × (Int) × (Bool) × (Bool) × Unit) → M (((Int) × (Int) × (Int) × (Bool) × (Bool) × Unit) ⊕ ((Unit) ⊕ (Unit)))) (v3_ : Int) (j8_ : (Int) × Unit) (j11_ : (Int) × (Int) × Unit) : M (((Int) × (Int) × (Int) × (Bool) × (Bool) × Unit) ⊕ ((Unit) ⊕ (Unit))) :=
 M.join (fun (j13_ : Unit) =>
 M.join (fun (j15_ : (Bool) × Unit) =>
 f132c1 X L x s0_ go2_ v3_ j8_ j11_ j15_) fun go16_ =>
 M.ite (decide (s0_.1 > 0))
 (f132c2 X L x s0_ j11_ go16_)
 (go16_ (false, ()))) fun go14_ =>
 M.join (fun (j37_ : (Bool) × Unit) =>
 M.ite j37_.1
 (M.callS (.one (.cell .bool)) (X (.call 151 [(.slice x.1.1 x.1.2.1 x.1.2.2), (.int .i64 s0_.1), (.int .i64 s0_.2.1)])) fun (r39_ : Bool) =>
 M.ite r39_
 (M.pure (.inr (.inl (()))))
 (go14_ (())))
 (go14_ (()))) fun go38_ =>
 M.ite s0_.2.2.2.1
 (M.ite s0_.2.2.2.2.1
 (go38_ ((j11_.2.1 == 1), ()))
 (go38_ (false, ())))
 (go38_ (false, ()))
def f132c4 (X : Task → M Value) (L : LoopI) (x : ((Option Addr × Nat × Nat)) × (Int) × (Int) × (Int) × Unit) (s0_ : (Int) × (Int) × (Int) × (Bool) × (Bool) × Unit) (go2_ : ((Int) × (Int) × (Int) × (Bool) × (Bool) × Unit) → M (((Int) × (Int) × (Int) × (Bool) × (Bool) × Unit) ⊕ ((Unit) ⊕ (Unit)))) (v3_ : Int) (j8_ : (Int) × Unit) : M (((Int) × (Int) × (Int) × (Bool) × (Bool) × Unit) ⊕ ((Unit) ⊕ (Unit))) :=
 M.callS (.tuple [(.cell (.int .i64)), (.cell (.int .i64))]) (X (.call 149 [(.slice x.1.1 x.1.2.1 x.1.2.2), (.int .i64 s0_.1), (.int .i64 s0_.2.1)])) fun (r10_ : (Int) × (Int) × Unit) =>
 M.join (fun (j11_ : (Int) × (Int) × Unit) =>
 f132c3 X L x s0_ go2_ v3_ j8_ j11_) fun go12_ =>
 M.ite (r10_.2.1 == 2)
 (M.callS (.tuple []) (X (.call 150 [(.slice x.1.1 x.1.2.1 x.1.2.2), (.int .i64 s0_.1), (.int .i64 s0_.2.1)])) fun (r42_ : Unit) =>
 go12_ ((IntKind.i64.wrap ((IntKind.i64.wrap (s0_.2.1 - 1)) - (IntKind.i64.wrap (r10_.1 - s0_.1)))), 1, ()))
 (go12_ (r10_.1, r10_.2.1, ()))
def f132c5 (X : Task → M Value) (L : LoopI) (x : ((Option Addr × Nat × Nat)) × (Int) × (Int) × (Int) × Unit) (s0_ : (Int) × (Int) × (Int) × (Bool) × (Bool) × Unit) (go2_ : ((Int) × (Int) × (Int) × (Bool) × (Bool) × Unit) → M (((Int) × (Int) × (Int) × (Bool) × (Bool) × Unit) ⊕ ((Unit) ⊕ (Unit)))) (v3_ : Int) (v4_ : Bool) : M (((Int) × (Int) × (Int) × (Bool) × (Bool) × Unit) ⊕ ((Unit) ⊕ (Unit))) :=
 M.ite v4_
 (M.callS (.tuple []) (X (.call 146 [(.slice x.1.1 x.1.2.1 x.1.2.2), (.int .i64 s0_.1), (.int .i64 s0_.2.1)])) fun (r5_ : Unit) =>
 M.pure (.inr (.inl (()))))
 (M.ite (s0_.2.2.1 == 0)
 (M.callS (.tuple []) (X (.call 147 [(.slice x.1.1 x.1.2.1 x.1.2.2), (.int .i64 s0_.1), (.int .i64 s0_.2.1)])) fun (r7_ : Unit) =>
 M.pure (.inr (.inl (()))))
 (M.join (fun (j8_ : (Int) × Unit) =>
 f132c4 X L x s0_ go2_ v3_ j8_) fun go9_ =>
 M.ite (!s0_.2.2.2.1)
 (M.callS (.tuple []) (X (.call 148 [(.slice x.1.1 x.1.2.1 x.1.2.2), (.int .i64 s0_.1), (.int .i64 s0_.2.1)])) fun (r47_ : Unit) =>
 go9_ ((IntKind.i64.wrap (s0_.2.2.1 - 1)), ()))
 (go9_ (s0_.2.2.1, ()))))
def f132 (X : Task → M Value) (L : LoopI) (x : ((Option Addr × Nat × Nat)) × (Int) × (Int) × (Int) × Unit) : M Value :=
 M.bind (L (σ := (Int) × (Int) × (Int) × (Bool) × (Bool) × Unit) (ρ := (Unit) ⊕ (Unit)) (fun s0_ =>
 M.join (fun (j1_ : (Int) × (Int) × (Int) × (Bool) × (Bool) × Unit) =>
 M.pure (.inl (j1_.1, j1_.2.1, j1_.2.2.1, j1_.2.2.2.1, j1_.2.2.2.2.1, ()))) fun go2_ =>
 let v3_ : Int := IntKind.i64.wrap (s0_.2.1 - s0_.1)
 f132c5 X L x s0_ go2_ v3_ (decide (v3_ ≤ 12))) (x.2.1, x.2.2.1, x.2.2.2.1, true, true, ())) <| M.sum (fun (j49_ : Unit) =>
 M.pure (.tuple ⟨[]⟩)) (fun _ => M.stuck)

theorem e132 (X : Task → M Value) (L : LoopI) (x : ((Option Addr × Nat × Nat)) × (Int) × (Int) × (Int) × Unit) : evBody CC { call := X, loop := L } 132 (shsInj [(.cell .slice), (.cell (.int .i64)), (.cell (.int .i64)), (.cell (.int .i64))] x) = f132 X L x := by kernel_rfl

/-- math/bits.Len -/
def f133 (X : Task → M Value) (L : LoopI) (x : (Int) × Unit) : M Value :=
 M.callS (.one (.cell (.int .i64))) (X (.call 156 [(.int .u64 x.1)])) fun (r0_ : Int) =>
 M.pure (.int .i64 r0_)

theorem e133 (X : Task → M Value) (L : LoopI) (x : (Int) × Unit) : evBody CC { call := X, loop := L } 133 (shsInj [(.cell (.int .u64))] x) = f133 X L x := by kernel_rfl

/-- (*hayrick/array.Array).Off -/
def f135 (X : Task → M Value) (L : LoopI) (x : (Option Addr) × Unit) : M Value :=
 M.join (fun (j0_ : (Bool) × Unit) =>
 M.pure (.bool j0_.1)) fun go1_ =>
 M.eqPtr x.1 none fun (q2_ : Bool) =>
 M.ite q2_
 (go1_ (true, ()))
 (M.deref x.1 fun a3_ =>
 M.load (.cell .bool) 1 (a3_.add 4) fun (x4_ : Bool) =>
 go1_ (x4_, ()))

theorem e135 (X : Task → M Value) (L : LoopI) (x : (Option Addr) × Unit) : evBody CC { call := X, loop := L } 135 (shsInj [(.cell .ptr)] x) = f135 X L x := by kernel_rfl

/-- hayrick/code.even -/
def f136c0 (X : Task → M Value) (L : LoopI) (x : ((Option Addr × Nat × Nat)) × Unit) (s1_ : (Int) × Unit) : M (((Int) × Unit) ⊕ ((Unit) ⊕ (((Bool) × Unit) ⊕ (Unit)))) :=
 M.guard (decide (0 ≤ s1_.1) && decide (s1_.1 < ((x.1.2.1 : Nat) : Int)))
 (M.deref x.1.1 fun a3_ =>
 M.load (.cell .slice) 1 (a3_.add ((Int.toNat s1_.1) * 1)) fun (x4_ : (Option Addr × Nat × Nat)) =>
 M.guard (decide (0 ≤ 0) && decide (0 < ((x.1.2.1 : Nat) : Int)))
 (M.deref x.1.1 fun a6_ =>
 M.load (.cell .slice) 1 (a6_.add ((Int.toNat 0) * 1)) fun (x7_ : (Option Addr × Nat × Nat)) =>
 M.ite (!(((x4_.2.1 : Nat) : Int) == ((x7_.2.1 : Nat) : Int)))
 (M.pure (.inr (.inr (.inl (false, ())))))
 (M.pure (.inl ((IntKind.i64.wrap (s1_.1 + 1)), ())))))
def f136 (X : Task → M Value) (L : LoopI) (x : ((Option Addr × Nat × Nat)) × Unit) : M Value :=
 M.bind (L (σ := (Int) × Unit) (ρ := (Unit) ⊕ (((Bool) × Unit) ⊕ (Unit))) (fun s1_ =>
 M.ite (decide (s1_.1 < ((x.1.2.1 : Nat) : Int)))
 (f136c0 X L x s1_)
 (M.pure (.inr (.inl (()))))) (0, ())) <| M.sum (fun (j11_ : Unit) =>
 M.pure (.bool true)) (M.sum (fun (j12_ : (Bool) × Unit) =>
 M.pure (.bool j12_.1)) (fun _ => M.stuck))

theorem e136 (X : Task → M Value) (L : LoopI) (x : ((Option Addr × Nat × Nat)) × Unit) : evBody CC { call := X, loop := L } 136 (shsInj [(.cell .slice)] x) = f136 X L x := by kernel_rfl

/-- hayrick/code.mix -/
def f137c0 (X : Task → M Value) (L : LoopI) (v2_ : Int) (b3_ : Nat) (s16_ : (Int) × Unit) (x19_ : Int) (x20_ : Int) (x22_ : Int) : M (((Int) × Unit) ⊕ ((Unit) ⊕ (Unit))) :=
 M.callS (.one (.cell (.int .u8))) (X (.call 158 [(.int .u8 x19_), (.int .u8 x22_)])) fun (r23_ : Int) =>
 M.load (.cell (.int .u8)) 1 ((Addr.mk b3_ 0 none).add ((Int.toNat s16_.1) * 1)) fun (x24_ : Int) => cond (veqv (.int .u8 x24_) (.int .u8 x20_)) (M.callS (.one (.cell (.int .u8))) (X (.call 157 [(.int .u8 x20_), (.int .u8 r23_)])) fun (r25_ : Int) =>
 M.guard (decide (0 ≤ s16_.1) && decide (s16_.1 < (((Int.toNat v2_) : Nat) : Int)))
 (M.store ((Addr.mk b3_ 0 none).add ((Int.toNat s16_.1) * 1)) [(.int .u8 r25_)]
 (M.pure (.inl ((IntKind.i64.wrap (s16_.1 + 1)), ()))))) M.stuck
def f137c1 (X : Task → M Value) (L : LoopI) (x : ((Option Addr × Nat × Nat)) × ((Option Addr × Nat × Nat)) × Unit) (v2_ : Int) (b3_ : Nat) (s5_ : (Int) × Unit) (x11_ : (Option Addr × Nat × Nat)) (s16_ : (Int) × Unit) : M (((Int) × Unit) ⊕ ((Unit) ⊕ (Unit))) :=
 M.guard (decide (0 ≤ s16_.1) && decide (s16_.1 < ((x11_.2.1 : Nat) : Int)))
 (M.deref x11_.1 fun a18_ =>
 M.load (.cell (.int .u8)) 1 (a18_.add ((Int.toNat s16_.1) * 1)) fun (x19_ : Int) =>
 M.guard (decide (0 ≤ s16_.1) && decide (s16_.1 < (((Int.toNat v2_) : Nat) : Int)))
 (M.load (.cell (.int .u8)) 1 ((Addr.mk b3_ 0 none).add ((Int.toNat s16_.1) * 1)) fun (x20_ : Int) =>
 M.guard (decide (0 ≤ s5_.1) && decide (s5_.1 < ((x.1.2.1 : Nat) : Int)))
 (M.deref x.1.1 fun a21_ =>
 M.load (.cell (.int .u8)) 1 (a21_.add ((Int.toNat s5_.1) * 1)) fun (x22_ : Int) =>
 f137c0 X L v2_ b3_ s16_ x19_ x20_ x22_)))
def f137c2 (X : Task → M Value) (L : LoopI) (x : ((Option Addr × Nat × Nat)) × ((Option Addr × Nat × Nat)) × Unit) (v2_ : Int) (b3_ : Nat) (s5_ : (Int) × Unit) (go8_ : (Unit) → M (((Int) × Unit) ⊕ ((Unit) ⊕ (Unit)))) (a10_ : Addr) : M (((Int) × Unit) ⊕ ((Unit) ⊕ (Unit))) :=
 M.load (.cell .slice) 1 (a10_.add ((Int.toNat s5_.1) * 1)) fun (x11_ : (Option Addr × Nat × Nat)) =>
 M.guard (decide (0 ≤ s5_.1) && decide (s5_.1 < ((x.1.2.1 : Nat) : Int)))
 (M.deref x.1.1 fun a12_ =>
 M.load (.cell (.int .u8)) 1 (a12_.add ((Int.toNat s5_.1) * 1)) fun (x13_ : Int) =>
 M.ite (x13_ == 0)
 (go8_ (()))
 (M.bind (L (σ := (Int) × Unit) (ρ := (Unit) ⊕ (Unit)) (fun s16_ =>
 M.ite (decide (s16_.1 < ((x11_.2.1 : Nat) : Int)))
 (f137c1 X L x v2_ b3_ s5_ x11_ s16_)
 (M.pure (.inr (.inl (()))))) (0, ())) <| M.sum (fun (j27_ : Unit) =>
 go8_ (())) (fun _ => M.stuck)))
def f137c3 (X : Task → M Value) (L : LoopI) (x : ((Option Addr × Nat × Nat)) × ((Option Addr × Nat × Nat)) × Unit) (v2_ : Int) (b3_ : Nat) : M (Value) :=
 M.bind (L (σ := (Int) × Unit) (ρ := (Unit) ⊕ (Unit)) (fun s5_ =>
 M.ite (decide (s5_.1 < ((x.2.1.2.1 : Nat) : Int)))
 (M.join (fun (j7_ : Unit) =>
 M.pure (.inl ((IntKind.i64.wrap (s5_.1 + 1)), ()))) fun go8_ =>
 M.guard (decide (0 ≤ s5_.1) && decide (s5_.1 < ((x.2.1.2.1 : Nat) : Int)))
 (M.deref x.2.1.1 fun a10_ =>
 f137c2 X L x v2_ b3_ s5_ go8_ a10_))
 (M.pure (.inr (.inl (()))))) (0, ())) <| M.sum (fun (j28_ : Unit) =>
 M.pure (.slice (some (Addr.mk b3_ 0 none)) (Int.toNat v2_) (Int.toNat v2_))) (fun _ => M.stuck)
def f137 (X : Task → M Value) (L : LoopI) (x : ((Option Addr × Nat × Nat)) × ((Option Addr × Nat × Nat)) × Unit) : M Value :=
 M.guard (decide (0 ≤ 0) && decide (0 < ((x.2.1.2.1 : Nat) : Int)))
 (M.deref x.2.1.1 fun a0_ =>
 M.load (.cell .slice) 1 (a0_.add ((Int.toNat 0) * 1)) fun (x1_ : (Option Addr × Nat × Nat)) =>
 let v2_ : Int := ((x1_.2.1 : Nat) : Int)
 M.guard (decide (0 ≤ v2_) && decide (v2_ ≤ v2_) && decide ((1 : Int) * v2_ ≤ 2 ^ 48))
 (M.new (.cells (Row.rep [(.int .u8 0)] (Int.toNat v2_)) 5 false (0, 0) false) fun b3_ =>
 f137c3 X L x v2_ b3_))

theorem e137 (X : Task → M Value) (L : LoopI) (x : ((Option Addr × Nat × Nat)) × ((Option Addr × Nat × Nat)) × Unit) : evBody CC { call := X, loop := L } 137 (shsInj [(.cell .slice), (.cell .slice)] x) = f137 X L x := by kernel_rfl

/-- hayrick/code.row -/
def f138c0 (X : Task → M Value) (L : LoopI) (x : (Int) × (Int) × Unit) (b0_ : Nat) (s2_ : (Int) × Unit) (go5_ : (Unit) → M (((Int) × Unit) ⊕ ((Unit) ⊕ (Unit)))) (j7_ : (Bool) × Unit) : M (((Int) × Unit) ⊕ ((Unit) ⊕ (Unit))) :=
 M.ite j7_.1
 (M.guard (decide (0 ≤ s2_.1) && decide (s2_.1 < (((Int.toNat x.1) : Nat) : Int)))
 (M.store ((Addr.mk b0_ 0 none).add ((Int.toNat s2_.1) * 1)) [(.int .u8 1)]
 (go5_ (()))))
 (M.ite (decide (x.2.1 ≥ x.1))
 (M.callS (.one (.cell (.int .u8))) (X (.call 157 [(.int .u8 (IntKind.u8.wrap x.2.1)), (.int .u8 (IntKind.u8.wrap s2_.1))])) fun (r12_ : Int) =>
 M.callS (.tuple [(.cell (.int .u8)), (.cell (.int .i64))]) (X (.call 159 [(.int .u8 r12_)])) fun (r13_ : (Int) × (Int) × Unit) =>
 M.guard (decide (0 ≤ s2_.1) && decide (s2_.1 < (((Int.toNat x.1) : Nat) : Int)))
 (M.store ((Addr.mk b0_ 0 none).add ((Int.toNat s2_.1) * 1)) [(.int .u8 r13_.1)]
 (go5_ (()))))
 (go5_ (())))
def f138c1 (X : Task → M Value) (L : LoopI) (x : (Int) × (Int) × Unit) (b0_ : Nat) (v1_ : Int) : M (Value) :=
 M.bind (L (σ := (Int) × Unit) (ρ := (Unit) ⊕ (Unit)) (fun s2_ =>
 M.ite (decide (s2_.1 < v1_))
 (M.join (fun (j4_ : Unit) =>
 M.pure (.inl ((IntKind.i64.wrap (s2_.1 + 1)), ()))) fun go5_ =>
 M.join (fun (j7_ : (Bool) × Unit) =>
 f138c0 X L x b0_ s2_ go5_ j7_) fun go8_ =>
 M.ite (decide (x.2.1 < x.1))
 (go8_ ((x.2.1 == s2_.1), ()))
 (go8_ (false, ())))
 (M.pure (.inr (.inl (()))))) (0, ())) <| M.sum (fun (j16_ : Unit) =>
 M.pure (.slice (some (Addr.mk b0_ 0 none)) (Int.toNat x.1) (Int.toNat x.1))) (fun _ => M.stuck)
def f138 (X : Task → M Value) (L : LoopI) (x : (Int) × (Int) × Unit) : M Value :=
 M.guard (decide (0 ≤ x.1) && decide (x.1 ≤ x.1) && decide ((1 : Int) * x.1 ≤ 2 ^ 48))
 (M.new (.cells (Row.rep [(.int .u8 0)] (Int.toNat x.1)) 5 false (0, 0) false) fun b0_ =>
 f138c1 X L x b0_ (((Int.toNat x.1) : Nat) : Int))

theorem e138 (X : Task → M Value) (L : LoopI) (x : (Int) × (Int) × Unit) : evBody CC { call := X, loop := L } 138 (shsInj [(.cell (.int .i64)), (.cell (.int .i64))] x) = f138 X L x := by kernel_rfl

/-- (*hayrick/array.Array).Write -/
def f140c0 (X : Task → M Value) (L : LoopI) (x : (Option Addr) × (Int) × (Int) × ((Option Addr × Nat × Nat)) × Unit) (b5_ : Nat) (a7_ : Addr) : M (Value) :=
 M.load (.cell .slice) 1 (a7_.add 2) fun (x8_ : (Option Addr × Nat × Nat)) =>
 M.load .raw 66 (Addr.mk b5_ 0 none) fun (x9_ : List Value) =>
 M.need (fillA (fun i => some (i * 66, 66)) (repeatA (zc 185) 1) [(0, (.agg ⟨x9_⟩))]) fun x10_ =>
 M.new (.cells (Row.ofList x10_) 185 false (0, 0) false) fun b11_ =>
 M.append 185 66 80 x8_.1 x8_.2.1 x8_.2.2 (.slice (some (Addr.mk b11_ 0 none)) 1 1) fun a12_ n13_ c14_ =>
 M.deref x.1 fun a15_ =>
 M.store (a15_.add 2) [(.slice a12_ n13_ c14_)]
 (M.pure (.int .i64 0))
def f140c1 (X : Task → M Value) (L : LoopI) (x : (Option Addr) × (Int) × (Int) × ((Option Addr × Nat × Nat)) × Unit) (b5_ : Nat) : M (Value) :=
 M.store (Addr.mk b5_ 0 none) [(.int .i64 x.2.1), (.int .i64 x.2.2.1), (.int .u8 0), (.int .u8 0), (.int .u8 0), (.int .u8 0), (.int .u8 0), (.int .u8 0), (.int .u8 0), (.int .u8 0), (.int .u8 0), (.int .u8 0), (.int .u8 0), (.int .u8 0), (.int .u8 0), (.int .u8 0), (.int .u8 0), (.int .u8 0), (.int .u8 0), (.int .u8 0), (.int .u8 0), (.int .u8 0), (.int .u8 0), (.int .u8 0), (.int .u8 0), (.int .u8 0), (.int .u8 0), (.int .u8 0), (.int .u8 0), (.int .u8 0), (.int .u8 0), (.int .u8 0), (.int .u8 0), (.int .u8 0), (.int .u8 0), (.int .u8 0), (.int .u8 0), (.int .u8 0), (.int .u8 0), (.int .u8 0), (.int .u8 0), (.int .u8 0), (.int .u8 0), (.int .u8 0), (.int .u8 0), (.int .u8 0), (.int .u8 0), (.int .u8 0), (.int .u8 0), (.int .u8 0), (.int .u8 0), (.int .u8 0), (.int .u8 0), (.int .u8 0), (.int .u8 0), (.int .u8 0), (.int .u8 0), (.int .u8 0), (.int .u8 0), (.int .u8 0), (.int .u8 0), (.int .u8 0), (.int .u8 0), (.int .u8 0), (.int .u8 0), (.int .u8 0)]
 (M.copy 1 (some (((Addr.mk b5_ 0 none).add 2).add (0 * 1))) (64 - 0) (.slice x.2.2.2.1.1 x.2.2.2.1.2.1 x.2.2.2.1.2.2) fun m6_ =>
 M.deref x.1 fun a7_ =>
 f140c0 X L x b5_ a7_)
def f140 (X : Task → M Value) (L : LoopI) (x : (Option Addr) × (Int) × (Int) × ((Option Addr × Nat × Nat)) × Unit) : M Value :=
 M.callS (.one (.cell (.int .i64))) (X (.call 161 [(.pointer x.1), (.int .i64 x.2.1), (.int .i64 x.2.2.1)])) fun (r0_ : Int) =>
 M.ite (!(r0_ == 0))
 (M.pure (.int .i64 r0_))
 (M.ite (!(((x.2.2.2.1.2.1 : Nat) : Int) == 64))
 (M.pure (.int .i64 1))
 (M.callS (.one (.cell .bool)) (X (.call 105 [(.pointer x.1)])) fun (r4_ : Bool) =>
 M.ite r4_
 (M.pure (.int .i64 8))
 (M.new (.cells (Row.ofList (zc 185)) 185 false (0, 0) false) fun b5_ =>
 f140c1 X L x b5_)))

theorem e140 (X : Task → M Value) (L : LoopI) (x : (Option Addr) × (Int) × (Int) × ((Option Addr × Nat × Nat)) × Unit) : evBody CC { call := X, loop := L } 140 (shsInj [(.cell .ptr), (.cell (.int .i64)), (.cell (.int .i64)), (.cell .slice)] x) = f140 X L x := by kernel_rfl

/-- (*hayrick/stripe.Stripes).sectors -/
def f141c0 (X : Task → M Value) (L : LoopI) (x : (Option Addr) × (Int) × (Int) × Unit) (s0_ : ((Option Addr × Nat × Nat)) × (Int) × Unit) (x3_ : Option Addr) (v8_ : Int) : M ((((Option Addr × Nat × Nat)) × (Int) × Unit) ⊕ ((((Option Addr × Nat × Nat)) × Unit) ⊕ ((((Option Addr × Nat × Nat)) × Unit) ⊕ (Unit)))) :=
 M.callS (.tuple [(.cell .slice), (.cell (.int .i64))]) (X (.call 162 [(.pointer x3_), (.int .i64 x.2.1), (.int .i64 v8_)])) fun (r9_ : ((Option Addr × Nat × Nat)) × (Int) × Unit) =>
 M.ite (!(r9_.2.1 == 0))
 (M.pure (.inr (.inr (.inl ((none, 0, 0), ())))))
 (M.new (.cells (Row.ofList [(.slice r9_.1.1 r9_.1.2.1 r9_.1.2.2)]) 49 false (0, 0) false) fun b11_ =>
 M.append 49 1 24 s0_.1.1 s0_.1.2.1 s0_.1.2.2 (.slice (some (Addr.mk b11_ 0 none)) 1 1) fun a12_ n13_ c14_ =>
 M.pure (.inl ((a12_, n13_, c14_), (IntKind.i64.wrap (s0_.2.1 + 1)), ())))
def f141c1 (X : Task → M Value) (L : LoopI) (x : (Option Addr) × (Int) × (Int) × Unit) : M (Value) :=
 M.bind (L (σ := ((Option Addr × Nat × Nat)) × (Int) × Unit) (ρ := (((Option Addr × Nat × Nat)) × Unit) ⊕ ((((Option Addr × Nat × Nat)) × Unit) ⊕ (Unit))) (fun s0_ =>
 M.ite (decide (s0_.2.1 < 8))
 (M.deref x.1 fun a2_ =>
 M.load (.cell .ptr) 1 (a2_.add 0) fun (x3_ : Option Addr) =>
 M.deref x.1 fun a4_ =>
 M.load (.cell (.int .i64)) 1 (a4_.add 4) fun (x5_ : Int) =>
 f141c0 X L x s0_ x3_ (IntKind.i64.wrap ((IntKind.i64.wrap (x5_ + (IntKind.i64.wrap (x.2.2.1 * 8)))) + s0_.2.1)))
 (M.pure (.inr (.inl (s0_.1, ()))))) ((none, 0, 0), 0, ())) <| M.sum (fun (j16_ : ((Option Addr × Nat × Nat)) × Unit) =>
 M.pure (.slice j16_.1.1 j16_.1.2.1 j16_.1.2.2)) (M.sum (fun (j17_ : ((Option Addr × Nat × Nat)) × Unit) =>
 M.pure (.slice j17_.1.1 j17_.1.2.1 j17_.1.2.2)) (fun _ => M.stuck))
def f141 (X : Task → M Value) (L : LoopI) (x : (Option Addr) × (Int) × (Int) × Unit) : M Value :=
 f141c1 X L x

theorem e141 (X : Task → M Value) (L : LoopI) (x : (Option Addr) × (Int) × (Int) × Unit) : evBody CC { call := X, loop := L } 141 (shsInj [(.cell .ptr), (.cell (.int .i64)), (.cell (.int .i64))] x) = f141 X L x := by kernel_rfl

/-- hayrick/stamp.Take -/
def f142c0 (X : Task → M Value) (L : LoopI) (x : ((Option Addr × Nat × Nat)) × Unit) (v4_ : Nat) (v5_ : Int) : M (Value) :=
 M.bind (L (σ := (Int) × (Int) × Unit) (ρ := ((Int) × Unit) ⊕ (Unit)) (fun s6_ =>
 M.ite (decide (s6_.2.1 < v5_))
 (M.guard (decide (0 ≤ s6_.2.1) && decide (s6_.2.1 < (((v4_ - 0) : Nat) : Int)))
 (M.deref (x.1.1.map (·.add (0 * 1))) fun a8_ =>
 M.load (.cell (.int .u8)) 1 (a8_.add ((Int.toNat s6_.2.1) * 1)) fun (x9_ : Int) =>
 M.guard (decide (0 ≤ 8))
 (M.pure (.inl ((bitsV .or .u64 (IntKind.u64.wrap (s6_.1 * 2 ^ (min (Int.toNat 8) IntKind.u64.bits))) (IntKind.u64.wrap x9_)), (IntKind.i64.wrap (s6_.2.1 + 1)), ())))))
 (M.pure (.inr (.inl (s6_.1, ()))))) (0, 0, ())) <| M.sum (fun (j14_ : (Int) × Unit) =>
 M.guard (decide (0 ≤ 8) && decide (8 ≤ ((x.1.2.1 : Nat) : Int)))
 (let v15_ : Nat := (Int.toNat 8)
 M.callS (.one (.cell .slice)) (X (.call 57 [(.slice (x.1.1.map (·.add (v15_ * 1))) (x.1.2.1 - v15_) (x.1.2.2 - v15_))])) fun (r16_ : (Option Addr × Nat × Nat)) =>
 M.pure (.tuple ⟨[(.int .u64 j14_.1), (.slice r16_.1 r16_.2.1 r16_.2.2), (.int .i64 0)]⟩))) (fun _ => M.stuck)
def f142 (X : Task → M Value) (L : LoopI) (x : ((Option Addr × Nat × Nat)) × Unit) : M Value :=
 M.ite (decide (((x.1.2.1 : Nat) : Int) < 64))
 (M.pure (.tuple ⟨[(.int .u64 0), (.slice none 0 0), (.int .i64 4)]⟩))
 (M.ite (decide (((x.1.2.1 : Nat) : Int) > 64))
 (M.pure (.tuple ⟨[(.int .u64 0), (.slice none 0 0), (.int .i64 3)]⟩))
 (M.guard (decide (0 ≤ 8) && decide (8 ≤ ((x.1.2.2 : Nat) : Int)))
 (let v4_ : Nat := (Int.toNat 8)
 f142c0 X L x v4_ (((v4_ - 0) : Nat) : Int))))

theorem e142 (X : Task → M Value) (L : LoopI) (x : ((Option Addr × Nat × Nat)) × Unit) : evBody CC { call := X, loop := L } 142 (shsInj [(.cell .slice)] x) = f142 X L x := by kernel_rfl

/-- hayrick/chunk.Take$1 -/
def f143c0 (X : Task → M Value) (L : LoopI) (x : ((Option Addr × Nat × Nat)) × (Option Addr) × (Option Addr) × Unit) (r0_ : (Int) × ((Option Addr × Nat × Nat)) × (Int) × Unit) : M (Value) :=
 M.deref x.2.1 fun a1_ =>
 M.load (.cell .slice) 1 a1_ fun (x2_ : (Option Addr × Nat × Nat)) =>
 M.append 5 1 1 x2_.1 x2_.2.1 x2_.2.2 (.slice r0_.2.1.1 r0_.2.1.2.1 r0_.2.1.2.2) fun a3_ n4_ c5_ =>
 M.deref x.2.1 fun a6_ =>
 M.store a6_ [(.slice a3_ n4_ c5_)]
 (M.join (fun (j7_ : (Bool) × Unit) =>
 M.pure (.bool j7_.1)) fun go8_ =>
 M.ite (!(r0_.2.2.1 == 0))
 (go8_ (true, ()))
 (M.deref x.2.2.1 fun a10_ =>
 M.load (.cell (.int .u64)) 1 a10_ fun (x11_ : Int) =>
 M.ite (!(r0_.1 == x11_))
 (go8_ (true, ()))
 (go8_ ((r0_.1 == 0), ()))))
def f143 (X : Task → M Value) (L : LoopI) (x : ((Option Addr × Nat × Nat)) × (Option Addr) × (Option Addr) × Unit) : M Value :=
 M.callS (.tuple [(.cell (.int .u64)), (.cell .slice), (.cell (.int .i64))]) (X (.call 142 [(.slice x.1.1 x.1.2.1 x.1.2.2)])) fun (r0_ : (Int) × ((Option Addr × Nat × Nat)) × (Int) × Unit) =>
 f143c0 X L x r0_

theorem e143 (X : Task → M Value) (L : LoopI) (x : ((Option Addr × Nat × Nat)) × (Option Addr) × (Option Addr) × Unit) : evBody CC { call := X, loop := L } 143 (shsInj [(.cell .slice), (.cell .ptr), (.cell .ptr)] x) = f143 X L x := by kernel_rfl

/-- slices.ContainsFunc[[][]byte,[]byte] -/
def f144 (X : Task → M Value) (L : LoopI) (x : ((Option Addr × Nat × Nat)) × (Value) × Unit) : M Value :=
 M.callS (.one (.cell (.int .i64))) (X (.call 163 [(.slice x.1.1 x.1.2.1 x.1.2.2), x.2.1])) fun (r0_ : Int) =>
 M.pure (.bool (decide (r0_ ≥ 0)))

theorem e144 (X : Task → M Value) (L : LoopI) (x : ((Option Addr × Nat × Nat)) × (Value) × Unit) : evBody CC { call := X, loop := L } 144 (shsInj [(.cell .slice), (.cell .val)] x) = f144 X L x := by kernel_rfl

/-- hayrick/matrix.Invert -/
def f145c0 (X : Task → M Value) (L : LoopI) (x : ((Option Addr × Nat × Nat)) × Unit) (v6_ : Int) (b7_ : Nat) (s9_ : (Int) × Unit) : M (((Int) × Unit) ⊕ ((Unit) ⊕ (Unit))) :=
 M.guard (decide (0 ≤ s9_.1) && decide (s9_.1 < ((x.1.2.1 : Nat) : Int)))
 (M.deref x.1.1 fun a11_ =>
 M.load (.cell .slice) 1 (a11_.add ((Int.toNat s9_.1) * 1)) fun (x12_ : (Option Addr × Nat × Nat)) =>
 M.callS (.one (.cell .slice)) (X (.call 57 [(.slice x12_.1 x12_.2.1 x12_.2.2)])) fun (r13_ : (Option Addr × Nat × Nat)) =>
 M.guard (decide (0 ≤ s9_.1) && decide (s9_.1 < (((Int.toNat v6_) : Nat) : Int)))
 (M.store ((Addr.mk b7_ 0 none).add ((Int.toNat s9_.1) * 1)) [(.slice r13_.1 r13_.2.1 r13_.2.2)]
 (M.pure (.inl ((IntKind.i64.wrap (s9_.1 + 1)), ())))))
def f145c1 (X : Task → M Value) (L : LoopI) (x : ((Option Addr × Nat × Nat)) × Unit) (b0_ : Nat) (b1_ : Nat) (v6_ : Int) (b7_ : Nat) (v8_ : Int) : M (Unit) :=
 M.bind (L (σ := (Int) × Unit) (ρ := (Unit) ⊕ (Unit)) (fun s9_ =>
 M.ite (decide (s9_.1 < v8_))
 (f145c0 X L x v6_ b7_ s9_)
 (M.pure (.inr (.inl (()))))) (0, ())) <| M.sum (fun (j15_ : Unit) =>
 M.callS (.tuple [(.cell .slice), (.cell (.int .i64))]) (X (.call 166 [(.int .i64 ((x.1.2.1 : Nat) : Int))])) fun (r17_ : ((Option Addr × Nat × Nat)) × (Int) × Unit) =>
 M.callS (.tuple []) (X (.call 167 [(.slice (some (Addr.mk b7_ 0 none)) (Int.toNat v6_) (Int.toNat v6_)), (.slice r17_.1.1 r17_.1.2.1 r17_.1.2.2)])) fun (r18_ : Unit) =>
 M.store (Addr.mk b0_ 0 none) [(.slice r17_.1.1 r17_.1.2.1 r17_.1.2.2)]
 (M.store (Addr.mk b1_ 0 none) [(.int .i64 0)]
 (M.pure ()))) (fun _ => M.stuck)
def f145c2 (X : Task → M Value) (L : LoopI) (x : ((Option Addr × Nat × Nat)) × Unit) (b0_ : Nat) (b1_ : Nat) : M (Value) :=
 M.afterDefer
 (let v6_ : Int := ((x.1.2.1 : Nat) : Int)
 M.guard (decide (0 ≤ v6_) && decide (v6_ ≤ v6_) && decide ((24 : Int) * v6_ ≤ 2 ^ 48))
 (M.new (.cells (Row.rep [(.slice none 0 0)] (Int.toNat v6_)) 49 false (0, 0) false) fun b7_ =>
 f145c1 X L x b0_ b1_ v6_ b7_ ((x.1.2.1 : Nat) : Int)))
 (fun rc_ => X (.deferred 165 [(.pointer (some (Addr.mk b0_ 0 none))), (.pointer (some (Addr.mk b1_ 0 none)))] rc_))
 (M.load (.cell .slice) 1 (Addr.mk b0_ 0 none) fun (x19_ : (Option Addr × Nat × Nat)) =>
 M.load (.cell (.int .i64)) 1 (Addr.mk b1_ 0 none) fun (x20_ : Int) =>
 M.pure (.tuple ⟨[(.slice x19_.1 x19_.2.1 x19_.2.2), (.int .i64 x20_)]⟩))
def f145c3 (X : Task → M Value) (L : LoopI) (x : ((Option Addr × Nat × Nat)) × Unit) (b0_ : Nat) (b1_ : Nat) : M (Value) :=
 M.join (fun (j2_ : (Bool) × Unit) =>
 M.ite j2_.1
 (M.store (Addr.mk b0_ 0 none) [(.slice none 0 0)]
 (M.store (Addr.mk b1_ 0 none) [(.int .i64 1)]
 (M.load (.cell .slice) 1 (Addr.mk b0_ 0 none) fun (x4_ : (Option Addr × Nat × Nat)) =>
 M.load (.cell (.int .i64)) 1 (Addr.mk b1_ 0 none) fun (x5_ : Int) =>
 M.pure (.tuple ⟨[(.slice x4_.1 x4_.2.1 x4_.2.2), (.int .i64 x5_)]⟩))))
 (f145c2 X L x b0_ b1_)) fun go3_ =>
 M.callS (.one (.cell .bool)) (X (.call 164 [(.slice x.1.1 x.1.2.1 x.1.2.2)])) fun (r21_ : Bool) =>
 M.ite (!r21_)
 (go3_ (true, ()))
 (M.guard (decide (0 ≤ 0) && decide (0 < ((x.1.2.1 : Nat) : Int)))
 (M.deref x.1.1 fun a24_ =>
 M.load (.cell .slice) 1 (a24_.add ((Int.toNat 0) * 1)) fun (x25_ : (Option Addr × Nat × Nat)) =>
 go3_ ((!(((x.1.2.1 : Nat) : Int) == ((x25_.2.1 : Nat) : Int))), ())))
def f145 (X : Task → M Value) (L : LoopI) (x : ((Option Addr × Nat × Nat)) × Unit) : M Value :=
 M.new (.cells (Row.ofList [(.slice none 0 0)]) 243 false (0, 0) false) fun b0_ =>
 M.new (.cells (Row.ofList [(.int .i64 0)]) 29 false (0, 0) false) fun b1_ =>
 f145c3 X L x b0_ b1_

theorem e145 (X : Task → M Value) (L : LoopI) (x : ((Option Addr × Nat × Nat)) × Unit) : evBody CC { call := X, loop := L } 145 (shsInj [(.cell .slice)] x) = f145 X L x := by kernel_rfl

/-- slices.insertionSortOrdered[int] -/
def f146c0 (X : Task → M Value) (L : LoopI) (x : ((Option Addr × Nat × Nat)) × (Int) × (Int) × Unit) (s3_ : (Int) × Unit) (v6_ : Int) (x9_ : Int) : M (((Int) × Unit) ⊕ ((Unit) ⊕ (Unit))) :=
 M.guard (decide (0 ≤ s3_.1) && decide (s3_.1 < ((x.1.2.1 : Nat) : Int)))
 (M.deref x.1.1 fun a10_ =>
 M.load (.cell (.int .i64)) 1 (a10_.add ((Int.toNat s3_.1) * 1)) fun (x11_ : Int) =>
 M.guard (decide (0 ≤ s3_.1) && decide (s3_.1 < ((x.1.2.1 : Nat) : Int)))
 (M.deref x.1.1 fun a12_ =>
 M.store (a12_.add ((Int.toNat s3_.1) * 1)) [(.int .i64 x9_)]
 (M.guard (decide (0 ≤ v6_) && decide (v6_ < ((x.1.2.1 : Nat) : Int)))
 (M.deref x.1.1 fun a13_ =>
 M.store (a13_.add ((Int.toNat v6_) * 1)) [(.int .i64 x11_)]
 (M.pure (.inl ((IntKind.i64.wrap (s3_.1 - 1)), ())))))))
def f146c1 (X : Task → M Value) (L : LoopI) (x : ((Option Addr × Nat × Nat)) × (Int) × (Int) × Unit) (s3_ : (Int) × Unit) (go5_ : ((Bool) × Unit) → M (((Int) × Unit) ⊕ ((Unit) ⊕ (Unit)))) : M (((Int) × Unit) ⊕ ((Unit) ⊕ (Unit))) :=
 M.guard (decide (0 ≤ s3_.1) && decide (s3_.1 < ((x.1.2.1 : Nat) : Int)))
 (M.deref x.1.1 fun a16_ =>
 M.load (.cell (.int .i64)) 1 (a16_.add ((Int.toNat s3_.1) * 1)) fun (x17_ : Int) =>
 let v18_ : Int := IntKind.i64.wrap (s3_.1 - 1)
 M.guard (decide (0 ≤ v18_) && decide (v18_ < ((x.1.2.1 : Nat) : Int)))
 (M.deref x.1.1 fun a19_ =>
 M.load (.cell (.int .i64)) 1 (a19_.add ((Int.toNat v18_) * 1)) fun (x20_ : Int) =>
 M.callS (.one (.cell .bool)) (X (.call 152 [(.int .i64 x17_), (.int .i64 x20_)])) fun (r21_ : Bool) =>
 go5_ (r21_, ())))
def f146c2 (X : Task → M Value) (L : LoopI) (x : ((Option Addr × Nat × Nat)) × (Int) × (Int) × Unit) (s1_ : (Int) × Unit) : M (((Int) × Unit) ⊕ ((Unit) ⊕ (Unit))) :=
 M.bind (L (σ := (Int) × Unit) (ρ := (Unit) ⊕ (Unit)) (fun s3_ =>
 M.join (fun (j4_ : (Bool) × Unit) =>
 M.ite j4_.1
 (let v7_ : Int := IntKind.i64.wrap (s3_.1 - 1)
 M.guard (decide (0 ≤ v7_) && decide (v7_ < ((x.1.2.1 : Nat) : Int)))
 (M.deref x.1.1 fun a8_ =>
 M.load (.cell (.int .i64)) 1 (a8_.add ((Int.toNat v7_) * 1)) fun (x9_ : Int) =>
 f146c0 X L x s3_ (IntKind.i64.wrap (s3_.1 - 1)) x9_))
 (M.pure (.inr (.inl (()))))) fun go5_ =>
 M.ite (decide (s3_.1 > x.2.1))
 (f146c1 X L x s3_ go5_)
 (go5_ (false, ()))) (s1_.1, ())) <| M.sum (fun (j22_ : Unit) =>
 M.pure (.inl ((IntKind.i64.wrap (s1_.1 + 1)), ()))) (fun _ => M.stuck)
def f146 (X : Task → M Value) (L : LoopI) (x : ((Option Addr × Nat × Nat)) × (Int) × (Int) × Unit) : M Value :=
 M.bind (L (σ := (Int) × Unit) (ρ := (Unit) ⊕ (Unit)) (fun s1_ =>
 M.ite (decide (s1_.1 < x.2.2.1))
 (f146c2 X L x s1_)
 (M.pure (.inr (.inl (()))))) ((IntKind.i64.wrap (x.2.1 + 1)), ())) <| M.sum (fun (j24_ : Unit) =>
 M.pure (.tuple ⟨[]⟩)) (fun _ => M.stuck)

theorem e146 (X : Task → M Value) (L : LoopI) (x : ((Option Addr × Nat × Nat)) × (Int) × (Int) × Unit) : evBody CC { call := X, loop := L } 146 (shsInj [(.cell .slice), (.cell (.int .i64)), (.cell (.int .i64))] x) = f146 X L x := by kernel_rfl

/-- slices.heapSortOrdered[int] -/
def f147c0 (X : Task → M Value) (L : LoopI) (x : ((Option Addr × Nat × Nat)) × (Int) × (Int) × Unit) (s9_ : (Int) × Unit) (v11_ : Int) (x14_ : Int) (x16_ : Int) : M (((Int) × Unit) ⊕ ((Unit) ⊕ (Unit))) :=
 M.guard (decide (0 ≤ x.2.1) && decide (x.2.1 < ((x.1.2.1 : Nat) : Int)))
 (M.deref x.1.1 fun a17_ =>
 M.store (a17_.add ((Int.toNat x.2.1) * 1)) [(.int .i64 x14_)]
 (M.guard (decide (0 ≤ v11_) && decide (v11_ < ((x.1.2.1 : Nat) : Int)))
 (M.deref x.1.1 fun a18_ =>
 M.store (a18_.add ((Int.toNat v11_) * 1)) [(.int .i64 x16_)]
 (M.callS (.tuple []) (X (.call 168 [(.slice x.1.1 x.1.2.1 x.1.2.2), (.int .i64 0), (.int .i64 s9_.1), (.int .i64 x.2.1)])) fun (r19_ : Unit) =>
 M.pure (.inl ((IntKind.i64.wrap (s9_.1 - 1)), ()))))))
def f147c1 (X : Task → M Value) (L : LoopI) (x : ((Option Addr × Nat × Nat)) × (Int) × (Int) × Unit) (s9_ : (Int) × Unit) (v10_ : Bool) : M (((Int) × Unit) ⊕ ((Unit) ⊕ (Unit))) :=
 M.ite v10_
 (let v12_ : Int := IntKind.i64.wrap (x.2.1 + s9_.1)
 M.guard (decide (0 ≤ v12_) && decide (v12_ < ((x.1.2.1 : Nat) : Int)))
 (M.deref x.1.1 fun a13_ =>
 M.load (.cell (.int .i64)) 1 (a13_.add ((Int.toNat v12_) * 1)) fun (x14_ : Int) =>
 M.guard (decide (0 ≤ x.2.1) && decide (x.2.1 < ((x.1.2.1 : Nat) : Int)))
 (M.deref x.1.1 fun a15_ =>
 M.load (.cell (.int .i64)) 1 (a15_.add ((Int.toNat x.2.1) * 1)) fun (x16_ : Int) =>
 f147c0 X L x s9_ (IntKind.i64.wrap (x.2.1 + s9_.1)) x14_ x16_)))
 (M.pure (.inr (.inl (()))))
def f147c2 (X : Task → M Value) (L : LoopI) (x : ((Option Addr × Nat × Nat)) × (Int) × (Int) × Unit) (v0_ : Int) (v2_ : Int) : M (Value) :=
 M.bind (L (σ := (Int) × Unit) (ρ := (Unit) ⊕ (Unit)) (fun s3_ =>
 M.ite (decide (s3_.1 ≥ 0))
 (M.callS (.tuple []) (X (.call 168 [(.slice x.1.1 x.1.2.1 x.1.2.2), (.int .i64 s3_.1), (.int .i64 v0_), (.int .i64 x.2.1)])) fun (r5_ : Unit) =>
 M.pure (.inl ((IntKind.i64.wrap (s3_.1 - 1)), ())))
 (M.pure (.inr (.inl (()))))) (v2_, ())) <| M.sum (fun (j7_ : Unit) =>
 M.bind (L (σ := (Int) × Unit) (ρ := (Unit) ⊕ (Unit)) (fun s9_ =>
 f147c1 X L x s9_ (decide (s9_.1 ≥ 0))) ((IntKind.i64.wrap (v0_ - 1)), ())) <| M.sum (fun (j21_ : Unit) =>
 M.pure (.tuple ⟨[]⟩)) (fun _ => M.stuck)) (fun _ => M.stuck)
def f147 (X : Task → M Value) (L : LoopI) (x : ((Option Addr × Nat × Nat)) × (Int) × (Int) × Unit) : M Value :=
 let v0_ : Int := IntKind.i64.wrap (x.2.2.1 - x.2.1)
 M.guard (!(decide (2 = 0)))
 (f147c2 X L x v0_ (IntKind.i64.wrap (((IntKind.i64.wrap (v0_ - 1)) : Int).tdiv 2)))

theorem e147 (X : Task → M Value) (L : LoopI) (x : ((Option Addr × Nat × Nat)) × (Int) × (Int) × Unit) : evBody CC { call := X, loop := L } 147 (shsInj [(.cell .slice), (.cell (.int .i64)), (.cell (.int .i64))] x) = f147 X L x := by kernel_rfl

/-- slices.breakPatternsOrdered[int] -/
def f148c0 (X : Task → M Value) (L : LoopI) (x : ((Option Addr × Nat × Nat)) × (Int) × (Int) × Unit) (s9_ : (Int) × Unit) (v21_ : Int) (x24_ : Int) : M (((Int) × Unit) ⊕ ((Unit) ⊕ (Unit))) :=
 M.guard (decide (0 ≤ s9_.1) && decide (s9_.1 < ((x.1.2.1 : Nat) : Int)))
 (M.deref x.1.1 fun a25_ =>
 M.load (.cell (.int .i64)) 1 (a25_.add ((Int.toNat s9_.1) * 1)) fun (x26_ : Int) =>
 M.guard (decide (0 ≤ s9_.1) && decide (s9_.1 < ((x.1.2.1 : Nat) : Int)))
 (M.deref x.1.1 fun a27_ =>
 M.store (a27_.add ((Int.toNat s9_.1) * 1)) [(.int .i64 x24_)]
 (M.guard (decide (0 ≤ v21_) && decide (v21_ < ((x.1.2.1 : Nat) : Int)))
 (M.deref x.1.1 fun a28_ =>
 M.store (a28_.add ((Int.toNat v21_) * 1)) [(.int .i64 x26_)]
 (M.pure (.inl ((IntKind.i64.wrap (s9_.1 + 1)), ())))))))
def f148c1 (X : Task → M Value) (L : LoopI) (x : ((Option Addr × Nat × Nat)) × (Int) × (Int) × Unit) (v0_ : Int) (r4_ : Int) (s9_ : (Int) × Unit) (r15_ : Int) : M (((Int) × Unit) ⊕ ((Unit) ⊕ (Unit))) :=
 let v18_ : Int := IntKind.i64.wrap (bitsV .and .u64 r15_ (IntKind.u64.wrap (r4_ - 1)))
 M.join (fun (j19_ : (Int) × Unit) =>
 let v22_ : Int := IntKind.i64.wrap (x.2.1 + j19_.1)
 M.guard (decide (0 ≤ v22_) && decide (v22_ < ((x.1.2.1 : Nat) : Int)))
 (M.deref x.1.1 fun a23_ =>
 M.load (.cell (.int .i64)) 1 (a23_.add ((Int.toNat v22_) * 1)) fun (x24_ : Int) =>
 f148c0 X L x s9_ (IntKind.i64.wrap (x.2.1 + j19_.1)) x24_)) fun go20_ =>
 M.ite (decide (v18_ ≥ v0_))
 (go20_ ((IntKind.i64.wrap (v18_ - v0_)), ()))
 (go20_ (v18_, ()))
def f148c2 (X : Task → M Value) (L : LoopI) (x : ((Option Addr × Nat × Nat)) × (Int) × (Int) × Unit) (v0_ : Int) (b3_ : Nat) (r4_ : Int) (v7_ : Int) : M (Value) :=
 M.bind (L (σ := (Int) × Unit) (ρ := (Unit) ⊕ (Unit)) (fun s9_ =>
 M.guard (!(decide (4 = 0)))
 (M.ite (decide (s9_.1 ≤ (IntKind.i64.wrap ((IntKind.i64.wrap (x.2.1 + (IntKind.i64.wrap ((IntKind.i64.wrap ((v0_ : Int).tdiv 4)) * 2)))) + 1))))
 (M.callS (.one (.cell (.int .u64))) (X (.call 170 [(.pointer (some (Addr.mk b3_ 0 none)))])) fun (r15_ : Int) =>
 f148c1 X L x v0_ r4_ s9_ r15_)
 (M.pure (.inr (.inl (())))))) ((IntKind.i64.wrap (v7_ - 1)), ())) <| M.sum (fun (j32_ : Unit) =>
 M.pure (.tuple ⟨[]⟩)) (fun _ => M.stuck)
def f148 (X : Task → M Value) (L : LoopI) (x : ((Option Addr × Nat × Nat)) × (Int) × (Int) × Unit) : M Value :=
 let v0_ : Int := IntKind.i64.wrap (x.2.2.1 - x.2.1)
 M.ite (decide (v0_ ≥ 8))
 (M.new (.cells (Row.ofList [(.int .u64 0)]) 267 false (0, 0) false) fun b3_ =>
 M.store (Addr.mk b3_ 0 none) [(.int .u64 (IntKind.u64.wrap v0_))]
 (M.callS (.one (.cell (.int .u64))) (X (.call 169 [(.int .i64 v0_)])) fun (r4_ : Int) =>
 M.guard (!(decide (4 = 0)))
 (f148c2 X L x v0_ b3_ r4_ (IntKind.i64.wrap (x.2.1 + (IntKind.i64.wrap ((IntKind.i64.wrap ((v0_ : Int).tdiv 4)) * 2)))))))
 (M.pure (.tuple ⟨[]⟩))

theorem e148 (X : Task → M Value) (L : LoopI) (x : ((Option Addr × Nat × Nat)) × (Int) × (Int) × Unit) : evBody CC { call := X, loop := L } 148 (shsInj [(.cell .slice), (.cell (.int .i64)), (.cell (.int .i64))] x) = f148 X L x := by kernel_rfl

/-- slices.choosePivotOrdered[int] -/
def f149c0 (X : Task → M Value) (L : LoopI) (x : ((Option Addr × Nat × Nat)) × (Int) × (Int) × Unit) (b1_ : Nat) (v4_ : Int) (v7_ : Int) (v10_ : Int) (go18_ : ((Int) × (Int) × (Int) × Unit) → M (Value)) : M (Value) :=
 M.callS (.one (.cell (.int .i64))) (X (.call 171 [(.slice x.1.1 x.1.2.1 x.1.2.2), (.int .i64 v4_), (.pointer (some (Addr.mk b1_ 0 none)))])) fun (r21_ : Int) =>
 M.callS (.one (.cell (.int .i64))) (X (.call 171 [(.slice x.1.1 x.1.2.1 x.1.2.2), (.int .i64 v7_), (.pointer (some (Addr.mk b1_ 0 none)))])) fun (r22_ : Int) =>
 M.callS (.one (.cell (.int .i64))) (X (.call 171 [(.slice x.1.1 x.1.2.1 x.1.2.2), (.int .i64 v10_), (.pointer (some (Addr.mk b1_ 0 none)))])) fun (r23_ : Int) =>
 go18_ (r21_, r22_, r23_, ())
def f149c1 (X : Task → M Value) (L : LoopI) (x : ((Option Addr × Nat × Nat)) × (Int) × (Int) × Unit) (v0_ : Int) (b1_ : Nat) (v4_ : Int) (v7_ : Int) (v10_ : Int) : M (Value) :=
 M.join (fun (j11_ : (Int) × Unit) =>
 M.load (.cell (.int .i64)) 1 (Addr.mk b1_ 0 none) fun (x13_ : Int) =>
 M.ite (x13_ == 0)
 (M.pure (.tuple ⟨[(.int .i64 j11_.1), (.int .i64 1)]⟩))
 (M.ite (x13_ == 12)
 (M.pure (.tuple ⟨[(.int .i64 j11_.1), (.int .i64 2)]⟩))
 (M.pure (.tuple ⟨[(.int .i64 j11_.1), (.int .i64 0)]⟩)))) fun go12_ =>
 M.ite (decide (v0_ ≥ 8))
 (M.join (fun (j17_ : (Int) × (Int) × (Int) × Unit) =>
 M.callS (.one (.cell (.int .i64))) (X (.call 172 [(.slice x.1.1 x.1.2.1 x.1.2.2), (.int .i64 j17_.1), (.int .i64 j17_.2.1), (.int .i64 j17_.2.2.1), (.pointer (some (Addr.mk b1_ 0 none)))])) fun (r19_ : Int) =>
 go12_ (r19_, ())) fun go18_ =>
 M.ite (decide (v0_ ≥ 50))
 (f149c0 X L x b1_ v4_ v7_ v10_ go18_)
 (go18_ (v4_, v7_, v10_, ())))
 (go12_ (v7_, ()))
def f149c2 (X : Task → M Value) (L : LoopI) (x : ((Option Addr × Nat × Nat)) × (Int) × (Int) × Unit) : M (Value) :=
 let v0_ : Int := IntKind.i64.wrap (x.2.2.1 - x.2.1)
 M.new (.cells (Row.ofList [(.int .i64 0)]) 3 false (0, 0) false) fun b1_ =>
 M.guard (!(decide (4 = 0)))
 (M.guard (!(decide (4 = 0)))
 (M.guard (!(decide (4 = 0)))
 (f149c1 X L x v0_ b1_ (IntKind.i64.wrap (x.2.1 + (IntKind.i64.wrap ((IntKind.i64.wrap ((v0_ : Int).tdiv 4)) * 1)))) (IntKind.i64.wrap (x.2.1 + (IntKind.i64.wrap ((IntKind.i64.wrap ((v0_ : Int).tdiv 4)) * 2)))) (IntKind.i64.wrap (x.2.1 + (IntKind.i64.wrap ((IntKind.i64.wrap ((v0_ : Int).tdiv 4)) * 3)))))))
def f149 (X : Task → M Value) (L : LoopI) (x : ((Option Addr × Nat × Nat)) × (Int) × (Int) × Unit) : M Value :=
 f149c2 X L x

theorem e149 (X : Task → M Value) (L : LoopI) (x : ((Option Addr × Nat × Nat)) × (Int) × (Int) × Unit) : evBody CC { call := X, loop := L } 149 (shsInj [(.cell .slice), (.cell (.int .i64)), (.cell (.int .i64))] x) = f149 X L x := by kernel_rfl

/-- slices.reverseRangeOrdered[int] -/
def f150c0 (X : Task → M Value) (L : LoopI) (x : ((Option Addr × Nat × Nat)) × (Int) × (Int) × Unit) (s1_ : (Int) × (Int) × Unit) (x4_ : Int) : M (((Int) × (Int) × Unit) ⊕ ((Unit) ⊕ (Unit))) :=
 M.guard (decide (0 ≤ s1_.1) && decide (s1_.1 < ((x.1.2.1 : Nat) : Int)))
 (M.deref x.1.1 fun a5_ =>
 M.load (.cell (.int .i64)) 1 (a5_.add ((Int.toNat s1_.1) * 1)) fun (x6_ : Int) =>
 M.guard (decide (0 ≤ s1_.1) && decide (s1_.1 < ((x.1.2.1 : Nat) : Int)))
 (M.deref x.1.1 fun a7_ =>
 M.store (a7_.add ((Int.toNat s1_.1) * 1)) [(.int .i64 x4_)]
 (M.guard (decide (0 ≤ s1_.2.1) && decide (s1_.2.1 < ((x.1.2.1 : Nat) : Int)))
 (M.deref x.1.1 fun a8_ =>
 M.store (a8_.add ((Int.toNat s1_.2.1) * 1)) [(.int .i64 x6_)]
 (M.pure (.inl ((IntKind.i64.wrap (s1_.1 + 1)), (IntKind.i64.wrap (s1_.2.1 - 1)), ())))))))
def f150 (X : Task → M Value) (L : LoopI) (x : ((Option Addr × Nat × Nat)) × (Int) × (Int) × Unit) : M Value :=
 M.bind (L (σ := (Int) × (Int) × Unit) (ρ := (Unit) ⊕ (Unit)) (fun s1_ =>
 M.ite (decide (s1_.1 < s1_.2.1))
 (M.guard (decide (0 ≤ s1_.2.1) && decide (s1_.2.1 < ((x.1.2.1 : Nat) : Int)))
 (M.deref x.1.1 fun a3_ =>
 M.load (.cell (.int .i64)) 1 (a3_.add ((Int.toNat s1_.2.1) * 1)) fun (x4_ : Int) =>
 f150c0 X L x s1_ x4_))
 (M.pure (.inr (.inl (()))))) (x.2.1, (IntKind.i64.wrap (x.2.2.1 - 1)), ())) <| M.sum (fun (j11_ : Unit) =>
 M.pure (.tuple ⟨[]⟩)) (fun _ => M.stuck)

theorem e150 (X : Task → M Value) (L : LoopI) (x : ((Option Addr × Nat × Nat)) × (Int) × (Int) × Unit) : evBody CC { call := X, loop := L } 150 (shsInj [(.cell .slice), (.cell (.int .i64)), (.cell (.int .i64))] x) = f150 X L x := by kernel_rfl

/-- slices.partialInsertionSortOrdered[int] -/
def f151c0 (X : Task → M Value) (L : LoopI) (x : ((Option Addr × Nat × Nat)) × (Int) × (Int) × Unit) (s6_ : (Int) × Unit) (go8_ : ((Bool) × Unit) → M (((Int) × Unit) ⊕ (((Int) × Unit) ⊕ (Unit)))) : M (((Int) × Unit) ⊕ (((Int) × Unit) ⊕ (Unit))) :=
 M.guard (decide (0 ≤ s6_.1) && decide (s6_.1 < ((x.1.2.1 : Nat) : Int)))
 (M.deref x.1.1 fun a11_ =>
 M.load (.cell (.int .i64)) 1 (a11_.add ((Int.toNat s6_.1) * 1)) fun (x12_ : Int) =>
 let v13_ : Int := IntKind.i64.wrap (s6_.1 - 1)
 M.guard (decide (0 ≤ v13_) && decide (v13_ < ((x.1.2.1 : Nat) : Int)))
 (M.deref x.1.1 fun a14_ =>
 M.load (.cell (.int .i64)) 1 (a14_.add ((Int.toNat v13_) * 1)) fun (x15_ : Int) =>
 M.callS (.one (.cell .bool)) (X (.call 152 [(.int .i64 x12_), (.int .i64 x15_)])) fun (r16_ : Bool) =>
 go8_ ((!r16_), ())))
def f151c1 (X : Task → M Value) (L : LoopI) (x : ((Option Addr × Nat × Nat)) × (Int) × (Int) × Unit) (s35_ : (Int) × Unit) (v44_ : Int) (x47_ : Int) : M (((Int) × Unit) ⊕ ((Unit) ⊕ (Unit))) :=
 M.guard (decide (0 ≤ s35_.1) && decide (s35_.1 < ((x.1.2.1 : Nat) : Int)))
 (M.deref x.1.1 fun a48_ =>
 M.load (.cell (.int .i64)) 1 (a48_.add ((Int.toNat s35_.1) * 1)) fun (x49_ : Int) =>
 M.guard (decide (0 ≤ s35_.1) && decide (s35_.1 < ((x.1.2.1 : Nat) : Int)))
 (M.deref x.1.1 fun a50_ =>
 M.store (a50_.add ((Int.toNat s35_.1) * 1)) [(.int .i64 x47_)]
 (M.guard (decide (0 ≤ v44_) && decide (v44_ < ((x.1.2.1 : Nat) : Int)))
 (M.deref x.1.1 fun a51_ =>
 M.store (a51_.add ((Int.toNat v44_) * 1)) [(.int .i64 x49_)]
 (M.pure (.inl ((IntKind.i64.wrap (s35_.1 + 1)), ())))))))
def f151c2 (X : Task → M Value) (L : LoopI) (x : ((Option Addr × Nat × Nat)) × (Int) × (Int) × Unit) (s35_ : (Int) × Unit) (x38_ : Int) (v39_ : Int) (a40_ : Addr) : M (((Int) × Unit) ⊕ ((Unit) ⊕ (Unit))) :=
 M.load (.cell (.int .i64)) 1 (a40_.add ((Int.toNat v39_) * 1)) fun (x41_ : Int) =>
 M.callS (.one (.cell .bool)) (X (.call 152 [(.int .i64 x38_), (.int .i64 x41_)])) fun (r42_ : Bool) =>
 M.ite (!r42_)
 (M.pure (.inr (.inl (()))))
 (let v45_ : Int := IntKind.i64.wrap (s35_.1 - 1)
 M.guard (decide (0 ≤ v45_) && decide (v45_ < ((x.1.2.1 : Nat) : Int)))
 (M.deref x.1.1 fun a46_ =>
 M.load (.cell (.int .i64)) 1 (a46_.add ((Int.toNat v45_) * 1)) fun (x47_ : Int) =>
 f151c1 X L x s35_ (IntKind.i64.wrap (s35_.1 - 1)) x47_))
def f151c3 (X : Task → M Value) (L : LoopI) (x : ((Option Addr × Nat × Nat)) × (Int) × (Int) × Unit) (go4_ : ((Int) × Unit) → M (((Int) × (Int) × Unit) ⊕ ((Unit) ⊕ (((Bool) × Unit) ⊕ (Unit))))) (j18_ : (Int) × Unit) (v34_ : Int) : M (((Int) × (Int) × Unit) ⊕ ((Unit) ⊕ (((Bool) × Unit) ⊕ (Unit)))) :=
 M.bind (L (σ := (Int) × Unit) (ρ := (Unit) ⊕ (Unit)) (fun s35_ =>
 M.ite (decide (s35_.1 < x.2.2.1))
 (M.guard (decide (0 ≤ s35_.1) && decide (s35_.1 < ((x.1.2.1 : Nat) : Int)))
 (M.deref x.1.1 fun a37_ =>
 M.load (.cell (.int .i64)) 1 (a37_.add ((Int.toNat s35_.1) * 1)) fun (x38_ : Int) =>
 let v39_ : Int := IntKind.i64.wrap (s35_.1 - 1)
 M.guard (decide (0 ≤ v39_) && decide (v39_ < ((x.1.2.1 : Nat) : Int)))
 (M.deref x.1.1 fun a40_ =>
 f151c2 X L x s35_ x38_ v39_ a40_)))
 (M.pure (.inr (.inl (()))))) (v34_, ())) <| M.sum (fun (j53_ : Unit) =>
 go4_ (j18_.1, ())) (fun _ => M.stuck)
def f151c4 (X : Task → M Value) (L : LoopI) (x : ((Option Addr × Nat × Nat)) × (Int) × (Int) × Unit) (s57_ : (Int) × Unit) (v66_ : Int) (x69_ : Int) : M (((Int) × Unit) ⊕ ((Unit) ⊕ (Unit))) :=
 M.guard (decide (0 ≤ s57_.1) && decide (s57_.1 < ((x.1.2.1 : Nat) : Int)))
 (M.deref x.1.1 fun a70_ =>
 M.load (.cell (.int .i64)) 1 (a70_.add ((Int.toNat s57_.1) * 1)) fun (x71_ : Int) =>
 M.guard (decide (0 ≤ s57_.1) && decide (s57_.1 < ((x.1.2.1 : Nat) : Int)))
 (M.deref x.1.1 fun a72_ =>
 M.store (a72_.add ((Int.toNat s57_.1) * 1)) [(.int .i64 x69_)]
 (M.guard (decide (0 ≤ v66_) && decide (v66_ < ((x.1.2.1 : Nat) : Int)))
 (M.deref x.1.1 fun a73_ =>
 M.store (a73_.add ((Int.toNat v66_) * 1)) [(.int .i64 x71_)]
 (M.pure (.inl ((IntKind.i64.wrap (s57_.1 - 1)), ())))))))
def f151c5 (X : Task → M Value) (L : LoopI) (x : ((Option Addr × Nat × Nat)) × (Int) × (Int) × Unit) (s57_ : (Int) × Unit) (x60_ : Int) (v61_ : Int) (a62_ : Addr) : M (((Int) × Unit) ⊕ ((Unit) ⊕ (Unit))) :=
 M.load (.cell (.int .i64)) 1 (a62_.add ((Int.toNat v61_) * 1)) fun (x63_ : Int) =>
 M.callS (.one (.cell .bool)) (X (.call 152 [(.int .i64 x60_), (.int .i64 x63_)])) fun (r64_ : Bool) =>
 M.ite (!r64_)
 (M.pure (.inr (.inl (()))))
 (let v67_ : Int := IntKind.i64.wrap (s57_.1 - 1)
 M.guard (decide (0 ≤ v67_) && decide (v67_ < ((x.1.2.1 : Nat) : Int)))
 (M.deref x.1.1 fun a68_ =>
 M.load (.cell (.int .i64)) 1 (a68_.add ((Int.toNat v67_) * 1)) fun (x69_ : Int) =>
 f151c4 X L x s57_ (IntKind.i64.wrap (s57_.1 - 1)) x69_))
def f151c6 (X : Task → M Value) (L : LoopI) (x : ((Option Addr × Nat × Nat)) × (Int) × (Int) × Unit) (go31_ : (Unit) → M (((Int) × (Int) × Unit) ⊕ ((Unit) ⊕ (((Bool) × Unit) ⊕ (Unit))))) (v56_ : Int) : M (((Int) × (Int) × Unit) ⊕ ((Unit) ⊕ (((Bool) × Unit) ⊕ (Unit)))) :=
 M.bind (L (σ := (Int) × Unit) (ρ := (Unit) ⊕ (Unit)) (fun s57_ =>
 M.ite (decide (s57_.1 ≥ 1))
 (M.guard (decide (0 ≤ s57_.1) && decide (s57_.1 < ((x.1.2.1 : Nat) : Int)))
 (M.deref x.1.1 fun a59_ =>
 M.load (.cell (.int .i64)) 1 (a59_.add ((Int.toNat s57_.1) * 1)) fun (x60_ : Int) =>
 let v61_ : Int := IntKind.i64.wrap (s57_.1 - 1)
 M.guard (decide (0 ≤ v61_) && decide (v61_ < ((x.1.2.1 : Nat) : Int)))
 (M.deref x.1.1 fun a62_ =>
 f151c5 X L x s57_ x60_ v61_ a62_)))
 (M.pure (.inr (.inl (()))))) (v56_, ())) <| M.sum (fun (j75_ : Unit) =>
 go31_ (())) (fun _ => M.stuck)
def f151c7 (X : Task → M Value) (L : LoopI) (x : ((Option Addr × Nat × Nat)) × (Int) × (Int) × Unit) (go4_ : ((Int) × Unit) → M (((Int) × (Int) × Unit) ⊕ ((Unit) ⊕ (((Bool) × Unit) ⊕ (Unit))))) (j18_ : (Int) × Unit) (v22_ : Int) (x25_ : Int) (x27_ : Int) (a28_ : Addr) : M (((Int) × (Int) × Unit) ⊕ ((Unit) ⊕ (((Bool) × Unit) ⊕ (Unit)))) :=
 M.store (a28_.add ((Int.toNat j18_.1) * 1)) [(.int .i64 x25_)]
 (M.guard (decide (0 ≤ v22_) && decide (v22_ < ((x.1.2.1 : Nat) : Int)))
 (M.deref x.1.1 fun a29_ =>
 M.store (a29_.add ((Int.toNat v22_) * 1)) [(.int .i64 x27_)]
 (M.join (fun (j30_ : Unit) =>
 M.ite (decide ((IntKind.i64.wrap (x.2.2.1 - j18_.1)) ≥ 2))
 (f151c3 X L x go4_ j18_ (IntKind.i64.wrap (j18_.1 + 1)))
 (go4_ (j18_.1, ()))) fun go31_ =>
 M.ite (decide ((IntKind.i64.wrap (j18_.1 - x.2.1)) ≥ 2))
 (f151c6 X L x go31_ (IntKind.i64.wrap (j18_.1 - 1)))
 (go31_ (())))))
def f151c8 (X : Task → M Value) (L : LoopI) (x : ((Option Addr × Nat × Nat)) × (Int) × (Int) × Unit) (go4_ : ((Int) × Unit) → M (((Int) × (Int) × Unit) ⊕ ((Unit) ⊕ (((Bool) × Unit) ⊕ (Unit))))) (j18_ : (Int) × Unit) (v22_ : Int) (v23_ : Int) : M (((Int) × (Int) × Unit) ⊕ ((Unit) ⊕ (((Bool) × Unit) ⊕ (Unit)))) :=
 M.guard (decide (0 ≤ v23_) && decide (v23_ < ((x.1.2.1 : Nat) : Int)))
 (M.deref x.1.1 fun a24_ =>
 M.load (.cell (.int .i64)) 1 (a24_.add ((Int.toNat v23_) * 1)) fun (x25_ : Int) =>
 M.guard (decide (0 ≤ j18_.1) && decide (j18_.1 < ((x.1.2.1 : Nat) : Int)))
 (M.deref x.1.1 fun a26_ =>
 M.load (.cell (.int .i64)) 1 (a26_.add ((Int.toNat j18_.1) * 1)) fun (x27_ : Int) =>
 M.guard (decide (0 ≤ j18_.1) && decide (j18_.1 < ((x.1.2.1 : Nat) : Int)))
 (M.deref x.1.1 fun a28_ =>
 f151c7 X L x go4_ j18_ v22_ x25_ x27_ a28_)))
def f151c9 (X : Task → M Value) (L : LoopI) (x : ((Option Addr × Nat × Nat)) × (Int) × (Int) × Unit) (s1_ : (Int) × (Int) × Unit) (go4_ : ((Int) × Unit) → M (((Int) × (Int) × Unit) ⊕ ((Unit) ⊕ (((Bool) × Unit) ⊕ (Unit))))) : M (((Int) × (Int) × Unit) ⊕ ((Unit) ⊕ (((Bool) × Unit) ⊕ (Unit)))) :=
 M.bind (L (σ := (Int) × Unit) (ρ := ((Int) × Unit) ⊕ (Unit)) (fun s6_ =>
 M.join (fun (j7_ : (Bool) × Unit) =>
 M.ite j7_.1
 (M.pure (.inl ((IntKind.i64.wrap (s6_.1 + 1)), ())))
 (M.pure (.inr (.inl (s6_.1, ()))))) fun go8_ =>
 M.ite (decide (s6_.1 < x.2.2.1))
 (f151c0 X L x s6_ go8_)
 (go8_ (false, ()))) (s1_.1, ())) <| M.sum (fun (j18_ : (Int) × Unit) =>
 M.ite (j18_.1 == x.2.2.1)
 (M.pure (.inr (.inr (.inl (true, ())))))
 (M.ite (decide ((IntKind.i64.wrap (x.2.2.1 - x.2.1)) < 50))
 (M.pure (.inr (.inr (.inl (false, ())))))
 (f151c8 X L x go4_ j18_ (IntKind.i64.wrap (j18_.1 - 1)) (IntKind.i64.wrap (j18_.1 - 1))))) (fun _ => M.stuck)
def f151 (X : Task → M Value) (L : LoopI) (x : ((Option Addr × Nat × Nat)) × (Int) × (Int) × Unit) : M Value :=
 M.bind (L (σ := (Int) × (Int) × Unit) (ρ := (Unit) ⊕ (((Bool) × Unit) ⊕ (Unit))) (fun s1_ =>
 M.ite (decide (s1_.2.1 < 5))
 (M.join (fun (j3_ : (Int) × Unit) =>
 M.pure (.inl (j3_.1, (IntKind.i64.wrap (s1_.2.1 + 1)), ()))) fun go4_ =>
 f151c9 X L x s1_ go4_)
 (M.pure (.inr (.inl (()))))) ((IntKind.i64.wrap (x.2.1 + 1)), 0, ())) <| M.sum (fun (j76_ : Unit) =>
 M.pure (.bool false)) (M.sum (fun (j77_ : (Bool) × Unit) =>
 M.pure (.bool j77_.1)) (fun _ => M.stuck))

theorem e151 (X : Task → M Value) (L : LoopI) (x : ((Option Addr × Nat × Nat)) × (Int) × (Int) × Unit) : evBody CC { call := X, loop := L } 151 (shsInj [(.cell .slice), (.cell (.int .i64)), (.cell (.int .i64))] x) = f151 X L x := by kernel_rfl

/-- cmp.Less[int] -/
def f152 (X : Task → M Value) (L : LoopI) (x : (Int) × (Int) × Unit) : M Value :=
 M.join (fun (j0_ : (Bool) × Unit) =>
 M.pure (.bool j0_.1)) fun go1_ =>
 M.callS (.one (.cell .bool)) (X (.call 173 [(.int .i64 x.1)])) fun (r2_ : Bool) =>
 M.ite r2_
 (M.callS (.one (.cell .bool)) (X (.call 173 [(.int .i64 x.2.1)])) fun (r3_ : Bool) =>
 M.ite (!r3_)
 (go1_ (true, ()))
 (go1_ ((decide (x.1 < x.2.1)), ())))
 (go1_ ((decide (x.1 < x.2.1)), ()))

theorem e152 (X : Task → M Value) (L : LoopI) (x : (Int) × (Int) × Unit) : evBody CC { call := X, loop := L } 152 (shsInj [(.cell (.int .i64)), (.cell (.int .i64))] x) = f152 X L x := by kernel_rfl

/-- slices.partitionEqualOrdered[int] -/
def f153c0 (X : Task → M Value) (L : LoopI) (x : ((Option Addr × Nat × Nat)) × (Int) × (Int) × (Int) × Unit) (s9_ : (Int) × Unit) (go11_ : ((Bool) × Unit) → M (((Int) × Unit) ⊕ (((Int) × Unit) ⊕ (Unit)))) (v13_ : Bool) : M (((Int) × Unit) ⊕ (((Int) × Unit) ⊕ (Unit))) :=
 M.ite v13_
 (M.guard (decide (0 ≤ x.2.1) && decide (x.2.1 < ((x.1.2.1 : Nat) : Int)))
 (M.deref x.1.1 fun a14_ =>
 M.load (.cell (.int .i64)) 1 (a14_.add ((Int.toNat x.2.1) * 1)) fun (x15_ : Int) =>
 M.guard (decide (0 ≤ s9_.1) && decide (s9_.1 < ((x.1.2.1 : Nat) : Int)))
 (M.deref x.1.1 fun a16_ =>
 M.load (.cell (.int .i64)) 1 (a16_.add ((Int.toNat s9_.1) * 1)) fun (x17_ : Int) =>
 M.callS (.one (.cell .bool)) (X (.call 152 [(.int .i64 x15_), (.int .i64 x17_)])) fun (r18_ : Bool) =>
 go11_ ((!r18_), ()))))
 (go11_ (false, ()))
def f153c1 (X : Task → M Value) (L : LoopI) (x : ((Option Addr × Nat × Nat)) × (Int) × (Int) × (Int) × Unit) (s21_ : (Int) × Unit) (go23_ : ((Bool) × Unit) → M (((Int) × Unit) ⊕ (((Int) × Unit) ⊕ (Unit)))) (v25_ : Bool) : M (((Int) × Unit) ⊕ (((Int) × Unit) ⊕ (Unit))) :=
 M.ite v25_
 (M.guard (decide (0 ≤ x.2.1) && decide (x.2.1 < ((x.1.2.1 : Nat) : Int)))
 (M.deref x.1.1 fun a26_ =>
 M.load (.cell (.int .i64)) 1 (a26_.add ((Int.toNat x.2.1) * 1)) fun (x27_ : Int) =>
 M.guard (decide (0 ≤ s21_.1) && decide (s21_.1 < ((x.1.2.1 : Nat) : Int)))
 (M.deref x.1.1 fun a28_ =>
 M.load (.cell (.int .i64)) 1 (a28_.add ((Int.toNat s21_.1) * 1)) fun (x29_ : Int) =>
 M.callS (.one (.cell .bool)) (X (.call 152 [(.int .i64 x27_), (.int .i64 x29_)])) fun (r30_ : Bool) =>
 go23_ (r30_, ()))))
 (go23_ (false, ()))
def f153c2 (X : Task → M Value) (L : LoopI) (x : ((Option Addr × Nat × Nat)) × (Int) × (Int) × (Int) × Unit) (j20_ : (Int) × Unit) (j31_ : (Int) × Unit) (x34_ : Int) (a35_ : Addr) : M (((Int) × (Int) × Unit) ⊕ (((Int) × Unit) ⊕ (Unit))) :=
 M.load (.cell (.int .i64)) 1 (a35_.add ((Int.toNat j20_.1) * 1)) fun (x36_ : Int) =>
 M.guard (decide (0 ≤ j20_.1) && decide (j20_.1 < ((x.1.2.1 : Nat) : Int)))
 (M.deref x.1.1 fun a37_ =>
 M.store (a37_.add ((Int.toNat j20_.1) * 1)) [(.int .i64 x34_)]
 (M.guard (decide (0 ≤ j31_.1) && decide (j31_.1 < ((x.1.2.1 : Nat) : Int)))
 (M.deref x.1.1 fun a38_ =>
 M.store (a38_.add ((Int.toNat j31_.1) * 1)) [(.int .i64 x36_)]
 (M.pure (.inl ((IntKind.i64.wrap (j20_.1 + 1)), (IntKind.i64.wrap (j31_.1 - 1)), ()))))))
def f153c3 (X : Task → M Value) (L : LoopI) (x : ((Option Addr × Nat × Nat)) × (Int) × (Int) × (Int) × Unit) (s8_ : (Int) × (Int) × Unit) (j20_ : (Int) × Unit) : M (((Int) × (Int) × Unit) ⊕ (((Int) × Unit) ⊕ (Unit))) :=
 M.bind (L (σ := (Int) × Unit) (ρ := ((Int) × Unit) ⊕ (Unit)) (fun s21_ =>
 M.join (fun (j22_ : (Bool) × Unit) =>
 M.ite j22_.1
 (M.pure (.inl ((IntKind.i64.wrap (s21_.1 - 1)), ())))
 (M.pure (.inr (.inl (s21_.1, ()))))) fun go23_ =>
 f153c1 X L x s21_ go23_ (decide (j20_.1 ≤ s21_.1))) (s8_.2.1, ())) <| M.sum (fun (j31_ : (Int) × Unit) =>
 M.ite (decide (j20_.1 > j31_.1))
 (M.pure (.inr (.inl (j20_.1, ()))))
 (M.guard (decide (0 ≤ j31_.1) && decide (j31_.1 < ((x.1.2.1 : Nat) : Int)))
 (M.deref x.1.1 fun a33_ =>
 M.load (.cell (.int .i64)) 1 (a33_.add ((Int.toNat j31_.1) * 1)) fun (x34_ : Int) =>
 M.guard (decide (0 ≤ j20_.1) && decide (j20_.1 < ((x.1.2.1 : Nat) : Int)))
 (M.deref x.1.1 fun a35_ =>
 f153c2 X L x j20_ j31_ x34_ a35_)))) (fun _ => M.stuck)
def f153c4 (X : Task → M Value) (L : LoopI) (x : ((Option Addr × Nat × Nat)) × (Int) × (Int) × (Int) × Unit) (v6_ : Int) (v7_ : Int) : M (Value) :=
 M.bind (L (σ := (Int) × (Int) × Unit) (ρ := ((Int) × Unit) ⊕ (Unit)) (fun s8_ =>
 M.bind (L (σ := (Int) × Unit) (ρ := ((Int) × Unit) ⊕ (Unit)) (fun s9_ =>
 M.join (fun (j10_ : (Bool) × Unit) =>
 M.ite j10_.1
 (M.pure (.inl ((IntKind.i64.wrap (s9_.1 + 1)), ())))
 (M.pure (.inr (.inl (s9_.1, ()))))) fun go11_ =>
 f153c0 X L x s9_ go11_ (decide (s9_.1 ≤ s8_.2.1))) (s8_.1, ())) <| M.sum (fun (j20_ : (Int) × Unit) =>
 f153c3 X L x s8_ j20_) (fun _ => M.stuck)) (v6_, v7_, ())) <| M.sum (fun (j41_ : (Int) × Unit) =>
 M.pure (.int .i64 j41_.1)) (fun _ => M.stuck)
def f153c5 (X : Task → M Value) (L : LoopI) (x : ((Option Addr × Nat × Nat)) × (Int) × (Int) × (Int) × Unit) (x1_ : Int) : M (Value) :=
 M.guard (decide (0 ≤ x.2.1) && decide (x.2.1 < ((x.1.2.1 : Nat) : Int)))
 (M.deref x.1.1 fun a2_ =>
 M.load (.cell (.int .i64)) 1 (a2_.add ((Int.toNat x.2.1) * 1)) fun (x3_ : Int) =>
 M.guard (decide (0 ≤ x.2.1) && decide (x.2.1 < ((x.1.2.1 : Nat) : Int)))
 (M.deref x.1.1 fun a4_ =>
 M.store (a4_.add ((Int.toNat x.2.1) * 1)) [(.int .i64 x1_)]
 (M.guard (decide (0 ≤ x.2.2.2.1) && decide (x.2.2.2.1 < ((x.1.2.1 : Nat) : Int)))
 (M.deref x.1.1 fun a5_ =>
 M.store (a5_.add ((Int.toNat x.2.2.2.1) * 1)) [(.int .i64 x3_)]
 (f153c4 X L x (IntKind.i64.wrap (x.2.1 + 1)) (IntKind.i64.wrap (x.2.2.1 - 1)))))))
def f153 (X : Task → M Value) (L : LoopI) (x : ((Option Addr × Nat × Nat)) × (Int) × (Int) × (Int) × Unit) : M Value :=
 M.guard (decide (0 ≤ x.2.2.2.1) && decide (x.2.2.2.1 < ((x.1.2.1 : Nat) : Int)))
 (M.deref x.1.1 fun a0_ =>
 M.load (.cell (.int .i64)) 1 (a0_.add ((Int.toNat x.2.2.2.1) * 1)) fun (x1_ : Int) =>
 f153c5 X L x x1_)

theorem e153 (X : Task → M Value) (L : LoopI) (x : ((Option Addr × Nat × Nat)) × (Int) × (Int) × (Int) × Unit) : evBody CC { call := X, loop := L } 153 (shsInj [(.cell .slice), (.cell (.int .i64)), (.cell (.int .i64)), (.cell (.int .i64))] x) = f153 X L x := by kernel_rfl

end
end Go.Proofs.YtcfnndmehnppnaaGreat.logKnown
