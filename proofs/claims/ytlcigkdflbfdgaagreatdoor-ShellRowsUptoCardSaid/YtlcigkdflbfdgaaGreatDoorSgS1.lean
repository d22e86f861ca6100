/-
 What the functions come to, part 1: each text, and that the reading gives it.
-/
import Derived.Test.YtlcigkdflbfdgaaGreatDoorSgH
import Derived.KernelRfl
set_option linter.unusedVariables false
namespace Go.Proofs.YtlcigkdflbfdgaaGreatDoor.sg
open Go Go.Eng
noncomputable section
/-- hayrick/shell.Quote -/
def f26c0 (X : XT) (L : LoopI) (x : (ByteArray) × Unit) (b0_ : Nat) (i4_ : Int) (go10_ : (Unit) → M ((Unit) ⊕ ((Unit) ⊕ (Unit)))) (v15_ : Int) : M ((Unit) ⊕ ((Unit) ⊕ (Unit))) :=
 M.guard (inB i4_ x.1.size)
 (let v17_ : Int := andW .u8 (byteAt x.1 i4_) 15
 M.guard (inB v17_ st15.size)
 (M.new (.cells (Row.ofList [(.int .u8 v15_), (.int .u8 (byteAt st15 v17_))]) 5 false (0, 0) false) fun b19_ =>
 M.toStr (some (Addr.mk b19_ 0 none)) 2 fun s20_ =>
 M.guard (Nat.ble (st16.size + s20_.size) 9223372036854775807)
 (M.callS (.tuple [(.cell (.int .i64)), (.cell .val)]) (X (.call 34 [(.pointer (some (Addr.mk b0_ 0 none))), (.string (st16 ++ s20_))])) fun (r22_ : (Int) × (Value) × Unit) =>
 go10_ (()))))
def f26c1 (X : XT) (L : LoopI) (b0_ : Nat) (c5_ : Int) (go10_ : (Unit) → M ((Unit) ⊕ ((Unit) ⊕ (Unit)))) : M ((Unit) ⊕ ((Unit) ⊕ (Unit))) :=
 M.join (fun (j23_ : (Bool) × Unit) =>
 M.ite j23_.1
 (M.callS (.one (.cell .val)) (X (.call 61 [(.pointer (some (Addr.mk b0_ 0 none))), (.int .u8 92)])) fun (r25_ : Value) =>
 M.callS (.tuple [(.cell (.int .i64)), (.cell .val)]) (X (.call 64 [(.pointer (some (Addr.mk b0_ 0 none))), (.int .i32 c5_)])) fun (r26_ : (Int) × (Value) × Unit) =>
 go10_ (()))
 (M.callS (.tuple [(.cell (.int .i64)), (.cell .val)]) (X (.call 64 [(.pointer (some (Addr.mk b0_ 0 none))), (.int .i32 c5_)])) fun (r27_ : (Int) × (Value) × Unit) =>
 go10_ (()))) fun go24_ =>
 M.ite (eqB c5_ 34)
 (go24_ (true, ()))
 (go24_ ((eqB c5_ 92), ()))
def f26c2 (X : XT) (L : LoopI) (x : (ByteArray) × Unit) (b0_ : Nat) (i4_ : Int) (c5_ : Int) (r8_ : (Int) × (Int) × Unit) (go10_ : (Unit) → M ((Unit) ⊕ ((Unit) ⊕ (Unit)))) : M ((Unit) ⊕ ((Unit) ⊕ (Unit))) :=
 M.join (fun (j11_ : (Bool) × Unit) =>
 M.ite j11_.1
 (M.guard (inB i4_ x.1.size)
 (M.guard (decide (0 ≤ 4))
 (let v14_ : Int := (((byteAt x.1 i4_) : Int)).fdiv (2 ^ (min (Int.toNat 4) IntKind.u8.bits))
 M.guard (inB v14_ st15.size)
 (f26c0 X L x b0_ i4_ go10_ (byteAt st15 v14_)))))
 (f26c1 X L b0_ c5_ go10_)) fun go12_ =>
 M.ite (ltB c5_ 32)
 (go12_ (true, ()))
 (M.ite (eqB c5_ 127)
 (go12_ (true, ()))
 (let v32_ : Int := addW .i64 i4_ r8_.2.1
 M.guard (upB v32_ x.1.size)
 (let v33_ : Nat := (Int.toNat v32_)
 M.guard (upB i4_ v33_)
 (M.callS (.one (.cell .bool)) (X (.call 63 [(.string (x.1.extract (Int.toNat i4_) v33_))])) fun (r36_ : Bool) =>
 go12_ ((!r36_), ())))))
def f26c3 (X : XT) (L : LoopI) (x : (ByteArray) × Unit) (b0_ : Nat) (b2_ : Nat) : M (Value) :=
 M.bind (L (σ := Unit) (ρ := (Unit) ⊕ (Unit)) (fun s3_ =>
 M.next b2_
 (M.pure (.inr (.inl (())))) fun i4_ c5_ =>
 M.guard (upB i4_ x.1.size)
 (M.callS (.tuple [(.cell (.int .i32)), (.cell (.int .i64))]) (X (.call 62 [(.string (x.1.extract (Int.toNat i4_) x.1.size))])) fun (r8_ : (Int) × (Int) × Unit) =>
 M.join (fun (j9_ : Unit) =>
 M.pure (.inl (()))) fun go10_ =>
 f26c2 X L x b0_ i4_ c5_ r8_ go10_)) (())) <| M.sum (fun (j38_ : Unit) =>
 M.callS (.one (.cell .val)) (X (.call 61 [(.pointer (some (Addr.mk b0_ 0 none))), (.int .u8 34)])) fun (r39_ : Value) =>
 M.callS (.one (.cell .string)) (X (.call 36 [(.pointer (some (Addr.mk b0_ 0 none)))])) fun (r40_ : ByteArray) =>
 M.pure (.string r40_)) (fun _ => M.stuck)
def f26 (X : XT) (L : LoopI) (x : (ByteArray) × Unit) : M Value :=
 M.new (.cells (Row.ofList [(.pointer none), (.slice none 0 0)]) 85 false (0, 0) false) fun b0_ =>
 M.callS (.one (.cell .val)) (X (.call 61 [(.pointer (some (Addr.mk b0_ 0 none))), (.int .u8 34)])) fun (r1_ : Value) =>
 M.new (.iter x.1 0) fun b2_ =>
 f26c3 X L x b0_ b2_

theorem e26 (X : XT) (L : LoopI) (x : (ByteArray) × Unit) : evBody CC { call := X, loop := L } 26 (shsInj [(.cell .string)] x) = f26 X L x := by kernel_rfl

/-- hayrick/shell.written[hayrick/world.Row] -/
def f27c0 (X : XT) (L : LoopI) (x : (SL) × (Value) × Unit) (b0_ : Nat) (s2_ : (Int) × Unit) (x7_ : Int × Int × Bool × SL × Int × Int × Int × Int × SL × Unit) : M (((Int) × Unit) ⊕ ((Unit) ⊕ (((ByteArray) × (Int) × Unit) ⊕ (Unit)))) :=
 callV CC ⟨X, L⟩ x.2.1 [(.agg ⟨[(.int .i64 x7_.1), (.int .i64 x7_.2.1), (.bool x7_.2.2.1), (.slice x7_.2.2.2.1.1 x7_.2.2.2.1.2.1 x7_.2.2.2.1.2.2), (.int .i64 x7_.2.2.2.2.1), (.int .i64 x7_.2.2.2.2.2.1), (.int .i64 x7_.2.2.2.2.2.2.1), (.int .i64 x7_.2.2.2.2.2.2.2.1), (.slice x7_.2.2.2.2.2.2.2.2.1.1 x7_.2.2.2.2.2.2.2.2.1.2.1 x7_.2.2.2.2.2.2.2.2.1.2.2)]⟩)] fun w9_ => M.need (RSh.prj (.tuple [(.cell .string), (.cell .bool)]) w9_) fun (r8_ : (ByteArray) × (Bool) × Unit) =>
 M.ite (!r8_.2.1)
 (M.pure (.inr (.inr (.inl (st0, 1, ())))))
 (M.guard (Nat.ble (r8_.1.size + st13.size) 9223372036854775807)
 (M.callS (.tuple [(.cell (.int .i64)), (.cell .val)]) (X (.call 34 [(.pointer (some (Addr.mk b0_ 0 none))), (.string (r8_.1 ++ st13))])) fun (r12_ : (Int) × (Value) × Unit) =>
 M.pure (.inl ((addW .i64 s2_.1 1), ()))))
def f27c1 (X : XT) (L : LoopI) (x : (SL) × (Value) × Unit) (b0_ : Nat) (s2_ : (Int) × Unit) (x5_ : Int × Int × Bool × SL × Int × Int × Int × Int × SL × Unit) (b6_ : Nat) : M (((Int) × Unit) ⊕ ((Unit) ⊕ (((ByteArray) × (Int) × Unit) ⊕ (Unit)))) :=
 M.store (Addr.mk b6_ 0 none) [(.int .i64 x5_.1), (.int .i64 x5_.2.1), (.bool x5_.2.2.1), (.slice x5_.2.2.2.1.1 x5_.2.2.2.1.2.1 x5_.2.2.2.1.2.2), (.int .i64 x5_.2.2.2.2.1), (.int .i64 x5_.2.2.2.2.2.1), (.int .i64 x5_.2.2.2.2.2.2.1), (.int .i64 x5_.2.2.2.2.2.2.2.1), (.slice x5_.2.2.2.2.2.2.2.2.1.1 x5_.2.2.2.2.2.2.2.2.1.2.1 x5_.2.2.2.2.2.2.2.2.1.2.2)]
 (M.load (.agg [(.int .i64), (.int .i64), .bool, .slice, (.int .i64), (.int .i64), (.int .i64), (.int .i64), .slice]) 9 (Addr.mk b6_ 0 none) fun (x7_ : Int × Int × Bool × SL × Int × Int × Int × Int × SL × Unit) =>
 f27c0 X L x b0_ s2_ x7_)
def f27c2 (X : XT) (L : LoopI) (x : (SL) × (Value) × Unit) (b0_ : Nat) (s2_ : (Int) × Unit) : M (((Int) × Unit) ⊕ ((Unit) ⊕ (((ByteArray) × (Int) × Unit) ⊕ (Unit)))) :=
 M.guard (inB s2_.1 x.1.2.1)
 (M.deref x.1.1 fun a4_ =>
 M.load (.agg [(.int .i64), (.int .i64), .bool, .slice, (.int .i64), (.int .i64), (.int .i64), (.int .i64), .slice]) 9 (a4_.add ((Int.toNat s2_.1) * 9)) fun (x5_ : Int × Int × Bool × SL × Int × Int × Int × Int × SL × Unit) =>
 M.new (.cells (Row.ofList [(.int .i64 0), (.int .i64 0), (.bool false), (.slice none 0 0), (.int .i64 0), (.int .i64 0), (.int .i64 0), (.int .i64 0), (.slice none 0 0)]) 69 false (0, 0) false) fun b6_ =>
 f27c1 X L x b0_ s2_ x5_ b6_)
def f27c3 (X : XT) (L : LoopI) (x : (SL) × (Value) × Unit) (b0_ : Nat) (v1_ : Int) : M (Value) :=
 M.bind (L (σ := (Int) × Unit) (ρ := (Unit) ⊕ (((ByteArray) × (Int) × Unit) ⊕ (Unit))) (fun s2_ =>
 M.ite (ltB s2_.1 v1_)
 (f27c2 X L x b0_ s2_)
 (M.pure (.inr (.inl (()))))) (0, ())) <| M.sum (fun (j14_ : Unit) =>
 M.callS (.one (.cell (.int .i64))) (X (.call 35 [(.pointer (some (Addr.mk b0_ 0 none)))])) fun (r15_ : Int) =>
 M.ite (ltB 65536 r15_)
 (M.pure (.tuple ⟨[(.string st0), (.int .i64 3)]⟩))
 (M.callS (.one (.cell .string)) (X (.call 36 [(.pointer (some (Addr.mk b0_ 0 none)))])) fun (r17_ : ByteArray) =>
 M.pure (.tuple ⟨[(.string r17_), (.int .i64 0)]⟩))) (M.sum (fun (j18_ : (ByteArray) × (Int) × Unit) =>
 M.pure (.tuple ⟨[(.string j18_.1), (.int .i64 j18_.2.1)]⟩)) (fun _ => M.stuck))
def f27 (X : XT) (L : LoopI) (x : (SL) × (Value) × Unit) : M Value :=
 M.new (.cells (Row.ofList [(.pointer none), (.slice none 0 0)]) 85 false (0, 0) false) fun b0_ =>
 f27c3 X L x b0_ ((x.1.2.1 : Nat) : Int)

theorem e27 (X : XT) (L : LoopI) (x : (SL) × (Value) × Unit) : evBody CC { call := X, loop := L } 27 (shsInj [(.cell .slice), (.cell .val)] x) = f27 X L x := by kernel_rfl

/-- hayrick/shell.rowLine -/
def f28c0 (X : XT) (L : LoopI) (b0_ : Nat) (j3_ : (ByteArray) × Unit) (v6_ : Bool) (go10_ : ((ByteArray) × (Bool) × Unit) → M (Value)) : M (Value) :=
 M.load (.cell .bool) 1 ((Addr.mk b0_ 0 none).add 2) fun (x11_ : Bool) =>
 M.ite (!x11_)
 (go10_ (j3_.1, true, ()))
 (M.ite v6_
 (M.load (.cell (.int .i64)) 1 ((Addr.mk b0_ 0 none).add 0) fun (x13_ : Int) =>
 M.ite (eqB x13_ 15)
 (go10_ (j3_.1, true, ()))
 (M.load (.cell (.int .i64)) 1 ((Addr.mk b0_ 0 none).add 0) fun (x15_ : Int) =>
 M.load (.cell (.int .i64)) 1 ((Addr.mk b0_ 0 none).add 0) fun (x17_ : Int) => cond (veqv (.int .i64 x17_) (.int .i64 x15_)) (go10_ (j3_.1, (eqB x15_ 16), ())) M.stuck))
 (go10_ (j3_.1, false, ())))
def f28c1 (X : XT) (L : LoopI) (b0_ : Nat) (v6_ : Bool) (go8_ : ((Bool) × Unit) → M (Value)) (x33_ : Int × Int × Int × Int × Unit) : M (Value) :=
 aEql PP 66 false false (.agg ⟨[(.int .i64 x33_.1), (.int .i64 x33_.2.1), (.int .i64 x33_.2.2.1), (.int .i64 x33_.2.2.2.1)]⟩) (.agg ⟨[(.int .i64 0), (.int .i64 0), (.int .i64 0), (.int .i64 0)]⟩) fun (q34_ : Bool) =>
 M.ite q34_
 (M.ite v6_
 (M.load (.cell (.int .i64)) 1 ((Addr.mk b0_ 0 none).add 0) fun (x35_ : Int) =>
 M.ite (eqB x35_ 11)
 (go8_ (true, ()))
 (M.load (.cell .slice) 1 ((Addr.mk b0_ 0 none).add 8) fun (x37_ : SL) =>
 go8_ ((eqB ((x37_.2.1 : Nat) : Int) 0), ())))
 (M.load (.cell .slice) 1 ((Addr.mk b0_ 0 none).add 8) fun (x40_ : SL) =>
 go8_ ((eqB ((x40_.2.1 : Nat) : Int) 0), ())))
 (go8_ (false, ()))
def f28c2 (X : XT) (L : LoopI) (b0_ : Nat) (v6_ : Bool) (go8_ : ((Bool) × Unit) → M (Value)) (v24_ : Bool) : M (Value) :=
 M.ite v24_
 (M.ite v6_
 (M.load (.cell (.int .i64)) 1 ((Addr.mk b0_ 0 none).add 0) fun (x25_ : Int) =>
 M.ite (eqB x25_ 11)
 (go8_ (true, ()))
 (M.load (.cell .slice) 1 ((Addr.mk b0_ 0 none).add 8) fun (x27_ : SL) =>
 go8_ ((eqB ((x27_.2.1 : Nat) : Int) 0), ())))
 (M.load (.cell .slice) 1 ((Addr.mk b0_ 0 none).add 8) fun (x30_ : SL) =>
 go8_ ((eqB ((x30_.2.1 : Nat) : Int) 0), ())))
 (M.load (.agg [(.int .i64), (.int .i64), (.int .i64), (.int .i64)]) 4 ((Addr.mk b0_ 0 none).add 4) fun (x33_ : Int × Int × Int × Int × Unit) =>
 f28c1 X L b0_ v6_ go8_ x33_)
def f28c3 (X : XT) (L : LoopI) (b0_ : Nat) (v6_ : Bool) (go8_ : ((Bool) × Unit) → M (Value)) (x43_ : Int × Int × Int × Int × Unit) : M (Value) :=
 aEql PP 66 false false (.agg ⟨[(.int .i64 x43_.1), (.int .i64 x43_.2.1), (.int .i64 x43_.2.2.1), (.int .i64 x43_.2.2.2.1)]⟩) (.agg ⟨[(.int .i64 0), (.int .i64 0), (.int .i64 0), (.int .i64 0)]⟩) fun (q44_ : Bool) =>
 M.ite q44_
 (M.ite v6_
 (M.load (.cell (.int .i64)) 1 ((Addr.mk b0_ 0 none).add 0) fun (x45_ : Int) =>
 M.ite (eqB x45_ 11)
 (go8_ (true, ()))
 (M.load (.cell .slice) 1 ((Addr.mk b0_ 0 none).add 8) fun (x47_ : SL) =>
 go8_ ((eqB ((x47_.2.1 : Nat) : Int) 0), ())))
 (M.load (.cell .slice) 1 ((Addr.mk b0_ 0 none).add 8) fun (x50_ : SL) =>
 go8_ ((eqB ((x50_.2.1 : Nat) : Int) 0), ())))
 (go8_ (false, ()))
def f28c4 (X : XT) (L : LoopI) (b0_ : Nat) (v6_ : Bool) (go8_ : ((Bool) × Unit) → M (Value)) (x66_ : Int × Int × Int × Int × Unit) : M (Value) :=
 aEql PP 66 false false (.agg ⟨[(.int .i64 x66_.1), (.int .i64 x66_.2.1), (.int .i64 x66_.2.2.1), (.int .i64 x66_.2.2.2.1)]⟩) (.agg ⟨[(.int .i64 0), (.int .i64 0), (.int .i64 0), (.int .i64 0)]⟩) fun (q67_ : Bool) =>
 M.ite q67_
 (M.ite v6_
 (M.load (.cell (.int .i64)) 1 ((Addr.mk b0_ 0 none).add 0) fun (x68_ : Int) =>
 M.ite (eqB x68_ 11)
 (go8_ (true, ()))
 (M.load (.cell .slice) 1 ((Addr.mk b0_ 0 none).add 8) fun (x70_ : SL) =>
 go8_ ((eqB ((x70_.2.1 : Nat) : Int) 0), ())))
 (M.load (.cell .slice) 1 ((Addr.mk b0_ 0 none).add 8) fun (x73_ : SL) =>
 go8_ ((eqB ((x73_.2.1 : Nat) : Int) 0), ())))
 (go8_ (false, ()))
def f28c5 (X : XT) (L : LoopI) (b0_ : Nat) (v6_ : Bool) (go8_ : ((Bool) × Unit) → M (Value)) (v57_ : Bool) : M (Value) :=
 M.ite v57_
 (M.ite v6_
 (M.load (.cell (.int .i64)) 1 ((Addr.mk b0_ 0 none).add 0) fun (x58_ : Int) =>
 M.ite (eqB x58_ 11)
 (go8_ (true, ()))
 (M.load (.cell .slice) 1 ((Addr.mk b0_ 0 none).add 8) fun (x60_ : SL) =>
 go8_ ((eqB ((x60_.2.1 : Nat) : Int) 0), ())))
 (M.load (.cell .slice) 1 ((Addr.mk b0_ 0 none).add 8) fun (x63_ : SL) =>
 go8_ ((eqB ((x63_.2.1 : Nat) : Int) 0), ())))
 (M.load (.agg [(.int .i64), (.int .i64), (.int .i64), (.int .i64)]) 4 ((Addr.mk b0_ 0 none).add 4) fun (x66_ : Int × Int × Int × Int × Unit) =>
 f28c4 X L b0_ v6_ go8_ x66_)
def f28c6 (X : XT) (L : LoopI) (b0_ : Nat) (v6_ : Bool) (go8_ : ((Bool) × Unit) → M (Value)) (x76_ : Int × Int × Int × Int × Unit) : M (Value) :=
 aEql PP 66 false false (.agg ⟨[(.int .i64 x76_.1), (.int .i64 x76_.2.1), (.int .i64 x76_.2.2.1), (.int .i64 x76_.2.2.2.1)]⟩) (.agg ⟨[(.int .i64 0), (.int .i64 0), (.int .i64 0), (.int .i64 0)]⟩) fun (q77_ : Bool) =>
 M.ite q77_
 (M.ite v6_
 (M.load (.cell (.int .i64)) 1 ((Addr.mk b0_ 0 none).add 0) fun (x78_ : Int) =>
 M.ite (eqB x78_ 11)
 (go8_ (true, ()))
 (M.load (.cell .slice) 1 ((Addr.mk b0_ 0 none).add 8) fun (x80_ : SL) =>
 go8_ ((eqB ((x80_.2.1 : Nat) : Int) 0), ())))
 (M.load (.cell .slice) 1 ((Addr.mk b0_ 0 none).add 8) fun (x83_ : SL) =>
 go8_ ((eqB ((x83_.2.1 : Nat) : Int) 0), ())))
 (go8_ (false, ()))
def f28c7 (X : XT) (L : LoopI) (b0_ : Nat) (v6_ : Bool) (go8_ : ((Bool) × Unit) → M (Value)) (v22_ : Bool) : M (Value) :=
 M.ite v22_
 (M.ite v6_
 (M.load (.cell (.int .i64)) 1 ((Addr.mk b0_ 0 none).add 0) fun (x23_ : Int) =>
 f28c2 X L b0_ v6_ go8_ (eqB x23_ 10))
 (M.load (.agg [(.int .i64), (.int .i64), (.int .i64), (.int .i64)]) 4 ((Addr.mk b0_ 0 none).add 4) fun (x43_ : Int × Int × Int × Int × Unit) =>
 f28c3 X L b0_ v6_ go8_ x43_))
 (M.load (.cell .slice) 1 ((Addr.mk b0_ 0 none).add 3) fun (x53_ : SL) =>
 M.ite (eqB ((x53_.2.1 : Nat) : Int) 0)
 (M.ite v6_
 (M.load (.cell (.int .i64)) 1 ((Addr.mk b0_ 0 none).add 0) fun (x56_ : Int) =>
 f28c5 X L b0_ v6_ go8_ (eqB x56_ 10))
 (M.load (.agg [(.int .i64), (.int .i64), (.int .i64), (.int .i64)]) 4 ((Addr.mk b0_ 0 none).add 4) fun (x76_ : Int × Int × Int × Int × Unit) =>
 f28c6 X L b0_ v6_ go8_ x76_))
 (go8_ (false, ())))
def f28c8 (X : XT) (L : LoopI) (b0_ : Nat) (v6_ : Bool) (go8_ : ((Bool) × Unit) → M (Value)) (x99_ : Int × Int × Int × Int × Unit) : M (Value) :=
 aEql PP 66 false false (.agg ⟨[(.int .i64 x99_.1), (.int .i64 x99_.2.1), (.int .i64 x99_.2.2.1), (.int .i64 x99_.2.2.2.1)]⟩) (.agg ⟨[(.int .i64 0), (.int .i64 0), (.int .i64 0), (.int .i64 0)]⟩) fun (q100_ : Bool) =>
 M.ite q100_
 (M.ite v6_
 (M.load (.cell (.int .i64)) 1 ((Addr.mk b0_ 0 none).add 0) fun (x101_ : Int) =>
 M.ite (eqB x101_ 11)
 (go8_ (true, ()))
 (M.load (.cell .slice) 1 ((Addr.mk b0_ 0 none).add 8) fun (x103_ : SL) =>
 go8_ ((eqB ((x103_.2.1 : Nat) : Int) 0), ())))
 (M.load (.cell .slice) 1 ((Addr.mk b0_ 0 none).add 8) fun (x106_ : SL) =>
 go8_ ((eqB ((x106_.2.1 : Nat) : Int) 0), ())))
 (go8_ (false, ()))
def f28c9 (X : XT) (L : LoopI) (b0_ : Nat) (v6_ : Bool) (go8_ : ((Bool) × Unit) → M (Value)) (v90_ : Bool) : M (Value) :=
 M.ite v90_
 (M.ite v6_
 (M.load (.cell (.int .i64)) 1 ((Addr.mk b0_ 0 none).add 0) fun (x91_ : Int) =>
 M.ite (eqB x91_ 11)
 (go8_ (true, ()))
 (M.load (.cell .slice) 1 ((Addr.mk b0_ 0 none).add 8) fun (x93_ : SL) =>
 go8_ ((eqB ((x93_.2.1 : Nat) : Int) 0), ())))
 (M.load (.cell .slice) 1 ((Addr.mk b0_ 0 none).add 8) fun (x96_ : SL) =>
 go8_ ((eqB ((x96_.2.1 : Nat) : Int) 0), ())))
 (M.load (.agg [(.int .i64), (.int .i64), (.int .i64), (.int .i64)]) 4 ((Addr.mk b0_ 0 none).add 4) fun (x99_ : Int × Int × Int × Int × Unit) =>
 f28c8 X L b0_ v6_ go8_ x99_)
def f28c10 (X : XT) (L : LoopI) (b0_ : Nat) (v6_ : Bool) (go8_ : ((Bool) × Unit) → M (Value)) (x109_ : Int × Int × Int × Int × Unit) : M (Value) :=
 aEql PP 66 false false (.agg ⟨[(.int .i64 x109_.1), (.int .i64 x109_.2.1), (.int .i64 x109_.2.2.1), (.int .i64 x109_.2.2.2.1)]⟩) (.agg ⟨[(.int .i64 0), (.int .i64 0), (.int .i64 0), (.int .i64 0)]⟩) fun (q110_ : Bool) =>
 M.ite q110_
 (M.ite v6_
 (M.load (.cell (.int .i64)) 1 ((Addr.mk b0_ 0 none).add 0) fun (x111_ : Int) =>
 M.ite (eqB x111_ 11)
 (go8_ (true, ()))
 (M.load (.cell .slice) 1 ((Addr.mk b0_ 0 none).add 8) fun (x113_ : SL) =>
 go8_ ((eqB ((x113_.2.1 : Nat) : Int) 0), ())))
 (M.load (.cell .slice) 1 ((Addr.mk b0_ 0 none).add 8) fun (x116_ : SL) =>
 go8_ ((eqB ((x116_.2.1 : Nat) : Int) 0), ())))
 (go8_ (false, ()))
def f28c11 (X : XT) (L : LoopI) (b0_ : Nat) (v6_ : Bool) (go8_ : ((Bool) × Unit) → M (Value)) : M (Value) :=
 M.ite v6_
 (M.load (.cell (.int .i64)) 1 ((Addr.mk b0_ 0 none).add 0) fun (x21_ : Int) =>
 f28c7 X L b0_ v6_ go8_ (eqB x21_ 7))
 (M.load (.cell .slice) 1 ((Addr.mk b0_ 0 none).add 3) fun (x86_ : SL) =>
 M.ite (eqB ((x86_.2.1 : Nat) : Int) 0)
 (M.ite v6_
 (M.load (.cell (.int .i64)) 1 ((Addr.mk b0_ 0 none).add 0) fun (x89_ : Int) =>
 f28c9 X L b0_ v6_ go8_ (eqB x89_ 10))
 (M.load (.agg [(.int .i64), (.int .i64), (.int .i64), (.int .i64)]) 4 ((Addr.mk b0_ 0 none).add 4) fun (x109_ : Int × Int × Int × Int × Unit) =>
 f28c10 X L b0_ v6_ go8_ x109_))
 (go8_ (false, ())))
def f28c12 (X : XT) (L : LoopI) (b0_ : Nat) (j3_ : (ByteArray) × Unit) (x5_ : Int) : M (Value) :=
 let v6_ : Bool := eqB x5_ 0
 M.join (fun (j7_ : (Bool) × Unit) =>
 M.join (fun (j9_ : (ByteArray) × (Bool) × Unit) =>
 M.pure (.tuple ⟨[(.string j9_.1), (.bool j9_.2.1)]⟩)) fun go10_ =>
 M.ite j7_.1
 (f28c0 X L b0_ j3_ v6_ go10_)
 (go10_ (j3_.1, false, ()))) fun go8_ =>
 M.load (.cell (.int .i64)) 1 ((Addr.mk b0_ 0 none).add 0) fun (x18_ : Int) =>
 M.callS (.one (.cell .string)) (X (.call 38 [(.int .i64 x18_)])) fun (r19_ : ByteArray) =>
 M.ite (!(seq r19_ st0))
 (f28c11 X L b0_ v6_ go8_)
 (go8_ (false, ()))
def f28c13 (X : XT) (L : LoopI) (x136_ : Int) (x137_ : Int) (x138_ : Int) (x139_ : Int) (s140_ : (ByteArray) × (Int) × Unit) : M (((ByteArray) × (Int) × Unit) ⊕ (((ByteArray) × Unit) ⊕ (Unit))) :=
 M.guard (inB s140_.2.1 4)
 (M.need ((([(.int .i64 x136_), (.int .i64 x137_), (.int .i64 x138_), (.int .i64 x139_)])[((Int.toNat s140_.2.1) * 1)]?).bind ((.cell (.int .i64)) : Sh).prj) fun (x143_ : Int) =>
 M.callS (.one (.cell .string)) (X (.call 40 [(.int .i64 x143_)])) fun (r144_ : ByteArray) =>
 M.guard (Nat.ble (st14.size + r144_.size) 9223372036854775807)
 (let v145_ : ByteArray := st14 ++ r144_
 M.guard (Nat.ble (s140_.1.size + v145_.size) 9223372036854775807)
 (M.pure (.inl ((s140_.1 ++ v145_), (addW .i64 s140_.2.1 1), ())))))
def f28c14 (X : XT) (L : LoopI) (b0_ : Nat) (v125_ : ByteArray) (go128_ : ((ByteArray) × Unit) → M (Value)) (x136_ : Int) : M (Value) :=
 M.load (.cell (.int .i64)) 1 (((Addr.mk b0_ 0 none).add 4).add 1) fun (x137_ : Int) =>
 M.load (.cell (.int .i64)) 1 (((Addr.mk b0_ 0 none).add 4).add 2) fun (x138_ : Int) =>
 M.load (.cell (.int .i64)) 1 (((Addr.mk b0_ 0 none).add 4).add 3) fun (x139_ : Int) =>
 M.bind (L (σ := (ByteArray) × (Int) × Unit) (ρ := ((ByteArray) × Unit) ⊕ (Unit)) (fun s140_ =>
 M.ite (ltB s140_.2.1 4)
 (f28c13 X L x136_ x137_ x138_ x139_ s140_)
 (M.pure (.inr (.inl (s140_.1, ()))))) (v125_, 0, ())) <| M.sum (fun (j148_ : (ByteArray) × Unit) =>
 go128_ (j148_.1, ())) (fun _ => M.stuck)
def f28c15 (X : XT) (L : LoopI) (s152_ : (ByteArray) × (Int) × Unit) (b156_ : Nat) (x158_ : ByteArray) (r159_ : ByteArray) : M (((ByteArray) × (Int) × Unit) ⊕ (((ByteArray) × Unit) ⊕ (Unit))) :=
 M.load (.cell .string) 1 ((Addr.mk b156_ 0 none).add 1) fun (x160_ : ByteArray) => cond (veqv (.string x160_) (.string x158_)) (M.guard (Nat.ble (st14.size + r159_.size) 9223372036854775807)
 (let v161_ : ByteArray := st14 ++ r159_
 M.guard (Nat.ble (v161_.size + st14.size) 9223372036854775807)
 (let v162_ : ByteArray := v161_ ++ st14
 M.callS (.one (.cell .string)) (X (.call 26 [(.string x158_)])) fun (r163_ : ByteArray) =>
 M.guard (Nat.ble (v162_.size + r163_.size) 9223372036854775807)
 (let v164_ : ByteArray := v162_ ++ r163_
 M.guard (Nat.ble (s152_.1.size + v164_.size) 9223372036854775807)
 (M.pure (.inl ((s152_.1 ++ v164_), (addW .i64 s152_.2.1 1), ()))))))) M.stuck
def f28c16 (X : XT) (L : LoopI) (s152_ : (ByteArray) × (Int) × Unit) (a154_ : Addr) : M (((ByteArray) × (Int) × Unit) ⊕ (((ByteArray) × Unit) ⊕ (Unit))) :=
 M.load (.agg [(.int .i64), .string]) 2 (a154_.add ((Int.toNat s152_.2.1) * 2)) fun (x155_ : Int × ByteArray × Unit) =>
 M.new (.cells (Row.ofList [(.int .i64 0), (.string st0)]) 71 false (0, 0) false) fun b156_ =>
 M.store (Addr.mk b156_ 0 none) [(.int .i64 x155_.1), (.string x155_.2.1)]
 (M.load (.cell (.int .i64)) 1 ((Addr.mk b156_ 0 none).add 0) fun (x157_ : Int) =>
 M.load (.cell .string) 1 ((Addr.mk b156_ 0 none).add 1) fun (x158_ : ByteArray) =>
 M.callS (.one (.cell .string)) (X (.call 40 [(.int .i64 x157_)])) fun (r159_ : ByteArray) =>
 f28c15 X L s152_ b156_ x158_ r159_)
def f28c17 (X : XT) (L : LoopI) (b0_ : Nat) (v125_ : ByteArray) (x126_ : Int) (go128_ : ((ByteArray) × Unit) → M (Value)) (v149_ : Bool) : M (Value) :=
 M.ite v149_
 (M.load (.cell .slice) 1 ((Addr.mk b0_ 0 none).add 8) fun (x150_ : SL) =>
 M.bind (L (σ := (ByteArray) × (Int) × Unit) (ρ := ((ByteArray) × Unit) ⊕ (Unit)) (fun s152_ =>
 M.ite (ltB s152_.2.1 ((x150_.2.1 : Nat) : Int))
 (M.guard (inB s152_.2.1 x150_.2.1)
 (M.deref x150_.1 fun a154_ =>
 f28c16 X L s152_ a154_))
 (M.pure (.inr (.inl (s152_.1, ()))))) (v125_, 0, ())) <| M.sum (fun (j167_ : (ByteArray) × Unit) =>
 go128_ (j167_.1, ())) (fun _ => M.stuck))
 (M.join (fun (j168_ : (Bool) × Unit) =>
 M.ite j168_.1
 (M.load (.cell .bool) 1 ((Addr.mk b0_ 0 none).add 2) fun (x170_ : Bool) =>
 M.ite x170_
 (M.guard (Nat.ble (v125_.size + st19.size) 9223372036854775807)
 (go128_ ((v125_ ++ st19), ())))
 (M.guard (Nat.ble (v125_.size + st20.size) 9223372036854775807)
 (go128_ ((v125_ ++ st20), ()))))
 (go128_ (v125_, ()))) fun go169_ =>
 M.ite (eqB x126_ 15)
 (go169_ (true, ()))
 (go169_ ((eqB x126_ 16), ())))
def f28c18 (X : XT) (L : LoopI) (b0_ : Nat) (v125_ : ByteArray) (x126_ : Int) (go128_ : ((ByteArray) × Unit) → M (Value)) (v129_ : Bool) : M (Value) :=
 M.ite v129_
 (M.load (.cell .slice) 1 ((Addr.mk b0_ 0 none).add 3) fun (x130_ : SL) =>
 M.toStr x130_.1 x130_.2.1 fun s131_ =>
 M.callS (.one (.cell .string)) (X (.call 26 [(.string s131_)])) fun (r132_ : ByteArray) =>
 M.guard (Nat.ble (st14.size + r132_.size) 9223372036854775807)
 (let v133_ : ByteArray := st14 ++ r132_
 M.guard (Nat.ble (v125_.size + v133_.size) 9223372036854775807)
 (go128_ ((v125_ ++ v133_), ()))))
 (M.ite (eqB x126_ 10)
 (M.load (.cell (.int .i64)) 1 (((Addr.mk b0_ 0 none).add 4).add 0) fun (x136_ : Int) =>
 f28c14 X L b0_ v125_ go128_ x136_)
 (f28c17 X L b0_ v125_ x126_ go128_ (eqB x126_ 11)))
def f28c19 (X : XT) (L : LoopI) (b0_ : Nat) (r2_ : ByteArray) (go4_ : ((ByteArray) × Unit) → M (Value)) (v120_ : Bool) : M (Value) :=
 M.ite v120_
 (M.load (.cell (.int .i64)) 1 ((Addr.mk b0_ 0 none).add 1) fun (x121_ : Int) =>
 M.callS (.one (.cell .string)) (X (.call 40 [(.int .i64 x121_)])) fun (r122_ : ByteArray) =>
 M.guard (Nat.ble (st17.size + r122_.size) 9223372036854775807)
 (let v123_ : ByteArray := st17 ++ r122_
 M.guard (Nat.ble (r2_.size + v123_.size) 9223372036854775807)
 (go4_ ((r2_ ++ v123_), ()))))
 (M.guard (Nat.ble (r2_.size + st18.size) 9223372036854775807)
 (M.load (.cell (.int .i64)) 1 ((Addr.mk b0_ 0 none).add 0) fun (x126_ : Int) =>
 M.join (fun (j127_ : (ByteArray) × Unit) =>
 go4_ (j127_.1, ())) fun go128_ =>
 f28c18 X L b0_ (r2_ ++ st18) x126_ go128_ (eqB x126_ 7)))
def f28c20 (X : XT) (L : LoopI) (x : (Int × Int × Bool × SL × Int × Int × Int × Int × SL × Unit) × Unit) : M (Value) :=
 M.new (.cells (Row.ofList [(.int .i64 x.1.1), (.int .i64 x.1.2.1), (.bool x.1.2.2.1), (.slice x.1.2.2.2.1.1 x.1.2.2.2.1.2.1 x.1.2.2.2.1.2.2), (.int .i64 x.1.2.2.2.2.1), (.int .i64 x.1.2.2.2.2.2.1), (.int .i64 x.1.2.2.2.2.2.2.1), (.int .i64 x.1.2.2.2.2.2.2.2.1), (.slice x.1.2.2.2.2.2.2.2.2.1.1 x.1.2.2.2.2.2.2.2.2.1.2.1 x.1.2.2.2.2.2.2.2.2.1.2.2)]) 69 false (0, 0) false) fun b0_ =>
 M.load (.cell (.int .i64)) 1 ((Addr.mk b0_ 0 none).add 0) fun (x1_ : Int) =>
 M.callS (.one (.cell .string)) (X (.call 38 [(.int .i64 x1_)])) fun (r2_ : ByteArray) =>
 M.join (fun (j3_ : (ByteArray) × Unit) =>
 M.load (.cell (.int .i64)) 1 ((Addr.mk b0_ 0 none).add 1) fun (x5_ : Int) =>
 f28c12 X L b0_ j3_ x5_) fun go4_ =>
 M.load (.cell (.int .i64)) 1 ((Addr.mk b0_ 0 none).add 1) fun (x119_ : Int) =>
 f28c19 X L b0_ r2_ go4_ (!(eqB x119_ 0))
def f28 (X : XT) (L : LoopI) (x : (Int × Int × Bool × SL × Int × Int × Int × Int × SL × Unit) × Unit) : M Value :=
 f28c20 X L x

theorem e28 (X : XT) (L : LoopI) (x : (Int × Int × Bool × SL × Int × Int × Int × Int × SL × Unit) × Unit) : evBody CC { call := X, loop := L } 28 (shsInj [(.agg [(.int .i64), (.int .i64), .bool, .slice, (.int .i64), (.int .i64), (.int .i64), (.int .i64), .slice])] x) = f28 X L x := by kernel_rfl

/-- hayrick/hayrickref30.RowLine -/
def f29c0 (X : XT) (L : LoopI) (b0_ : Nat) (r2_ : ByteArray) (v6_ : Bool) : M (Value) :=
 M.join (fun (j9_ : (Bool) × Unit) =>
 M.ite j9_.1
 (M.pure (.tuple ⟨[(.string st0), (.bool false)]⟩))
 (M.guard (Nat.ble (r2_.size + st17.size) 9223372036854775807)
 (let v11_ : ByteArray := r2_ ++ st17
 M.load (.cell (.int .i64)) 1 ((Addr.mk b0_ 0 none).add 1) fun (x12_ : Int) =>
 M.callS (.one (.cell .string)) (X (.call 44 [(.int .i64 x12_)])) fun (r13_ : ByteArray) =>
 M.guard (Nat.ble (v11_.size + r13_.size) 9223372036854775807)
 (M.pure (.tuple ⟨[(.string (v11_ ++ r13_)), (.bool true)]⟩))))) fun go10_ =>
 M.load (.cell .slice) 1 ((Addr.mk b0_ 0 none).add 3) fun (x15_ : SL) =>
 M.ite (ltB 0 ((x15_.2.1 : Nat) : Int))
 (go10_ (true, ()))
 (M.ite v6_
 (go10_ (true, ()))
 (M.load (.cell .slice) 1 ((Addr.mk b0_ 0 none).add 8) fun (x18_ : SL) =>
 M.ite (ltB 0 ((x18_.2.1 : Nat) : Int))
 (go10_ (true, ()))
 (M.load (.cell .bool) 1 ((Addr.mk b0_ 0 none).add 2) fun (x21_ : Bool) =>
 go10_ (x21_, ()))))
def f29c1 (X : XT) (L : LoopI) (b0_ : Nat) (go27_ : ((ByteArray) × Unit) → M (Value)) (x39_ : Int) (v50_ : ByteArray) (r51_ : ByteArray) : M (Value) :=
 M.load (.cell (.int .i64)) 1 (((Addr.mk b0_ 0 none).add 4).add 3) fun (x52_ : Int) => cond (veqv (.int .i64 x52_) (.int .i64 x39_)) (M.guard (Nat.ble (v50_.size + r51_.size) 9223372036854775807)
 (let v53_ : ByteArray := v50_ ++ r51_
 M.guard (Nat.ble (v53_.size + st14.size) 9223372036854775807)
 (let v54_ : ByteArray := v53_ ++ st14
 M.callS (.one (.cell .string)) (X (.call 44 [(.int .i64 x39_)])) fun (r55_ : ByteArray) =>
 M.guard (Nat.ble (v54_.size + r55_.size) 9223372036854775807)
 (go27_ ((v54_ ++ r55_), ()))))) M.stuck
def f29c2 (X : XT) (L : LoopI) (b0_ : Nat) (go27_ : ((ByteArray) × Unit) → M (Value)) (x38_ : Int) (x39_ : Int) (v45_ : ByteArray) (r46_ : ByteArray) : M (Value) :=
 M.load (.cell (.int .i64)) 1 (((Addr.mk b0_ 0 none).add 4).add 3) fun (x47_ : Int) => cond (veqv (.int .i64 x47_) (.int .i64 x39_)) (M.load (.cell (.int .i64)) 1 (((Addr.mk b0_ 0 none).add 4).add 2) fun (x48_ : Int) => cond (veqv (.int .i64 x48_) (.int .i64 x38_)) (M.guard (Nat.ble (v45_.size + r46_.size) 9223372036854775807)
 (let v49_ : ByteArray := v45_ ++ r46_
 M.guard (Nat.ble (v49_.size + st14.size) 9223372036854775807)
 (M.callS (.one (.cell .string)) (X (.call 44 [(.int .i64 x38_)])) fun (r51_ : ByteArray) =>
 f29c1 X L b0_ go27_ x39_ (v49_ ++ st14) r51_))) M.stuck) M.stuck
def f29c3 (X : XT) (L : LoopI) (b0_ : Nat) (go27_ : ((ByteArray) × Unit) → M (Value)) (v35_ : ByteArray) (x37_ : Int) (x38_ : Int) (x39_ : Int) (r40_ : ByteArray) : M (Value) :=
 M.load (.cell (.int .i64)) 1 (((Addr.mk b0_ 0 none).add 4).add 3) fun (x41_ : Int) => cond (veqv (.int .i64 x41_) (.int .i64 x39_)) (M.load (.cell (.int .i64)) 1 (((Addr.mk b0_ 0 none).add 4).add 2) fun (x42_ : Int) => cond (veqv (.int .i64 x42_) (.int .i64 x38_)) (M.load (.cell (.int .i64)) 1 (((Addr.mk b0_ 0 none).add 4).add 1) fun (x43_ : Int) => cond (veqv (.int .i64 x43_) (.int .i64 x37_)) (M.guard (Nat.ble (v35_.size + r40_.size) 9223372036854775807)
 (let v44_ : ByteArray := v35_ ++ r40_
 M.guard (Nat.ble (v44_.size + st14.size) 9223372036854775807)
 (M.callS (.one (.cell .string)) (X (.call 44 [(.int .i64 x37_)])) fun (r46_ : ByteArray) =>
 f29c2 X L b0_ go27_ x38_ x39_ (v44_ ++ st14) r46_))) M.stuck) M.stuck) M.stuck
def f29c4 (X : XT) (L : LoopI) (b0_ : Nat) (v24_ : ByteArray) (go27_ : ((ByteArray) × Unit) → M (Value)) : M (Value) :=
 M.guard (Nat.ble (v24_.size + st14.size) 9223372036854775807)
 (M.load (.cell (.int .i64)) 1 (((Addr.mk b0_ 0 none).add 4).add 0) fun (x36_ : Int) =>
 M.load (.cell (.int .i64)) 1 (((Addr.mk b0_ 0 none).add 4).add 1) fun (x37_ : Int) =>
 M.load (.cell (.int .i64)) 1 (((Addr.mk b0_ 0 none).add 4).add 2) fun (x38_ : Int) =>
 M.load (.cell (.int .i64)) 1 (((Addr.mk b0_ 0 none).add 4).add 3) fun (x39_ : Int) =>
 M.callS (.one (.cell .string)) (X (.call 44 [(.int .i64 x36_)])) fun (r40_ : ByteArray) =>
 f29c3 X L b0_ go27_ (v24_ ++ st14) x37_ x38_ x39_ r40_)
def f29c5 (X : XT) (L : LoopI) (b0_ : Nat) (s58_ : (ByteArray) × (Int) × Unit) (v62_ : ByteArray) (x66_ : SL) (a67_ : Addr) (x68_ : ByteArray) (r69_ : ByteArray) : M (((ByteArray) × (Int) × Unit) ⊕ (((ByteArray) × Unit) ⊕ (Unit))) :=
 M.load (.cell .string) 1 ((a67_.add ((Int.toNat s58_.2.1) * 2)).add 1) fun (x70_ : ByteArray) => cond (veqv (.string x70_) (.string x68_)) (M.load (.cell .slice) 1 ((Addr.mk b0_ 0 none).add 8) fun (x71_ : SL) => cond (veqv (.slice x71_.1 x71_.2.1 x71_.2.2) (.slice x66_.1 x66_.2.1 x66_.2.2)) (M.guard (Nat.ble (v62_.size + r69_.size) 9223372036854775807)
 (let v72_ : ByteArray := v62_ ++ r69_
 M.guard (Nat.ble (v72_.size + st14.size) 9223372036854775807)
 (let v73_ : ByteArray := v72_ ++ st14
 M.callS (.one (.cell .string)) (X (.call 43 [(.string x68_)])) fun (r74_ : ByteArray) =>
 M.guard (Nat.ble (v73_.size + r74_.size) 9223372036854775807)
 (M.pure (.inl ((v73_ ++ r74_), (addW .i64 s58_.2.1 1), ())))))) M.stuck) M.stuck
def f29c6 (X : XT) (L : LoopI) (b0_ : Nat) (s58_ : (ByteArray) × (Int) × Unit) (v62_ : ByteArray) (x63_ : SL) : M (((ByteArray) × (Int) × Unit) ⊕ (((ByteArray) × Unit) ⊕ (Unit))) :=
 M.guard (inB s58_.2.1 x63_.2.1)
 (M.deref x63_.1 fun a64_ =>
 M.load (.cell (.int .i64)) 1 ((a64_.add ((Int.toNat s58_.2.1) * 2)).add 0) fun (x65_ : Int) =>
 M.load (.cell .slice) 1 ((Addr.mk b0_ 0 none).add 8) fun (x66_ : SL) =>
 M.guard (inB s58_.2.1 x66_.2.1)
 (M.deref x66_.1 fun a67_ =>
 M.load (.cell .string) 1 ((a67_.add ((Int.toNat s58_.2.1) * 2)).add 1) fun (x68_ : ByteArray) =>
 M.callS (.one (.cell .string)) (X (.call 44 [(.int .i64 x65_)])) fun (r69_ : ByteArray) =>
 f29c5 X L b0_ s58_ v62_ x66_ a67_ x68_ r69_))
def f29c7 (X : XT) (L : LoopI) (b0_ : Nat) (v24_ : ByteArray) (go27_ : ((ByteArray) × Unit) → M (Value)) : M (Value) :=
 M.bind (L (σ := (ByteArray) × (Int) × Unit) (ρ := ((ByteArray) × Unit) ⊕ (Unit)) (fun s58_ =>
 M.load (.cell .slice) 1 ((Addr.mk b0_ 0 none).add 8) fun (x59_ : SL) =>
 M.ite (ltB s58_.2.1 ((x59_.2.1 : Nat) : Int))
 (M.guard (Nat.ble (s58_.1.size + st14.size) 9223372036854775807)
 (M.load (.cell .slice) 1 ((Addr.mk b0_ 0 none).add 8) fun (x63_ : SL) =>
 f29c6 X L b0_ s58_ (s58_.1 ++ st14) x63_))
 (M.pure (.inr (.inl (s58_.1, ()))))) (v24_, 0, ())) <| M.sum (fun (j77_ : (ByteArray) × Unit) =>
 go27_ (j77_.1, ())) (fun _ => M.stuck)
def f29c8 (X : XT) (L : LoopI) (b0_ : Nat) (v24_ : ByteArray) (x25_ : Int) (go27_ : ((ByteArray) × Unit) → M (Value)) (v34_ : Bool) : M (Value) :=
 M.ite v34_
 (f29c4 X L b0_ v24_ go27_)
 (M.ite (eqB x25_ 11)
 (f29c7 X L b0_ v24_ go27_)
 (M.join (fun (j78_ : (Bool) × Unit) =>
 M.ite j78_.1
 (M.load (.cell .bool) 1 ((Addr.mk b0_ 0 none).add 2) fun (x80_ : Bool) =>
 M.ite x80_
 (M.guard (Nat.ble (v24_.size + st19.size) 9223372036854775807)
 (go27_ ((v24_ ++ st19), ())))
 (M.guard (Nat.ble (v24_.size + st20.size) 9223372036854775807)
 (go27_ ((v24_ ++ st20), ()))))
 (go27_ (v24_, ()))) fun go79_ =>
 M.ite (eqB x25_ 15)
 (go79_ (true, ()))
 (go79_ ((eqB x25_ 16), ()))))
def f29c9 (X : XT) (L : LoopI) (b0_ : Nat) (v24_ : ByteArray) (x25_ : Int) : M (Value) :=
 M.join (fun (j26_ : (ByteArray) × Unit) =>
 M.pure (.tuple ⟨[(.string j26_.1), (.bool true)]⟩)) fun go27_ =>
 M.ite (eqB x25_ 7)
 (M.guard (Nat.ble (v24_.size + st14.size) 9223372036854775807)
 (let v29_ : ByteArray := v24_ ++ st14
 M.load (.cell .slice) 1 ((Addr.mk b0_ 0 none).add 3) fun (x30_ : SL) =>
 M.toStr x30_.1 x30_.2.1 fun s31_ =>
 M.callS (.one (.cell .string)) (X (.call 43 [(.string s31_)])) fun (r32_ : ByteArray) =>
 M.guard (Nat.ble (v29_.size + r32_.size) 9223372036854775807)
 (go27_ ((v29_ ++ r32_), ()))))
 (f29c8 X L b0_ v24_ x25_ go27_ (eqB x25_ 10))
def f29c10 (X : XT) (L : LoopI) (b0_ : Nat) (go23_ : ((Bool) × Unit) → M (Value)) (v94_ : Bool) : M (Value) :=
 M.ite v94_
 (M.load (.cell (.int .i64)) 1 ((Addr.mk b0_ 0 none).add 0) fun (x95_ : Int) =>
 M.ite (!(eqB x95_ 11))
 (go23_ (true, ()))
 (M.load (.cell .bool) 1 ((Addr.mk b0_ 0 none).add 2) fun (x97_ : Bool) =>
 M.ite x97_
 (M.load (.cell (.int .i64)) 1 ((Addr.mk b0_ 0 none).add 0) fun (x98_ : Int) =>
 M.ite (!(eqB x98_ 15))
 (M.load (.cell (.int .i64)) 1 ((Addr.mk b0_ 0 none).add 0) fun (x100_ : Int) =>
 go23_ ((!(eqB x100_ 16)), ()))
 (go23_ (false, ())))
 (go23_ (false, ()))))
 (M.load (.cell .bool) 1 ((Addr.mk b0_ 0 none).add 2) fun (x102_ : Bool) =>
 M.ite x102_
 (M.load (.cell (.int .i64)) 1 ((Addr.mk b0_ 0 none).add 0) fun (x103_ : Int) =>
 M.ite (!(eqB x103_ 15))
 (M.load (.cell (.int .i64)) 1 ((Addr.mk b0_ 0 none).add 0) fun (x105_ : Int) =>
 go23_ ((!(eqB x105_ 16)), ()))
 (go23_ (false, ())))
 (go23_ (false, ())))
def f29c11 (X : XT) (L : LoopI) (b0_ : Nat) (go23_ : ((Bool) × Unit) → M (Value)) (v109_ : Bool) : M (Value) :=
 M.ite v109_
 (M.load (.cell (.int .i64)) 1 ((Addr.mk b0_ 0 none).add 0) fun (x110_ : Int) =>
 M.ite (!(eqB x110_ 11))
 (go23_ (true, ()))
 (M.load (.cell .bool) 1 ((Addr.mk b0_ 0 none).add 2) fun (x112_ : Bool) =>
 M.ite x112_
 (M.load (.cell (.int .i64)) 1 ((Addr.mk b0_ 0 none).add 0) fun (x113_ : Int) =>
 M.ite (!(eqB x113_ 15))
 (M.load (.cell (.int .i64)) 1 ((Addr.mk b0_ 0 none).add 0) fun (x115_ : Int) =>
 go23_ ((!(eqB x115_ 16)), ()))
 (go23_ (false, ())))
 (go23_ (false, ()))))
 (M.load (.cell .bool) 1 ((Addr.mk b0_ 0 none).add 2) fun (x117_ : Bool) =>
 M.ite x117_
 (M.load (.cell (.int .i64)) 1 ((Addr.mk b0_ 0 none).add 0) fun (x118_ : Int) =>
 M.ite (!(eqB x118_ 15))
 (M.load (.cell (.int .i64)) 1 ((Addr.mk b0_ 0 none).add 0) fun (x120_ : Int) =>
 go23_ ((!(eqB x120_ 16)), ()))
 (go23_ (false, ())))
 (go23_ (false, ())))
def f29c12 (X : XT) (L : LoopI) (b0_ : Nat) (v6_ : Bool) (go23_ : ((Bool) × Unit) → M (Value)) : M (Value) :=
 M.load (.cell (.int .i64)) 1 ((Addr.mk b0_ 0 none).add 0) fun (x88_ : Int) =>
 M.ite (!(eqB x88_ 7))
 (go23_ (true, ()))
 (M.ite v6_
 (M.load (.cell (.int .i64)) 1 ((Addr.mk b0_ 0 none).add 0) fun (x90_ : Int) =>
 M.ite (!(eqB x90_ 10))
 (go23_ (true, ()))
 (M.load (.cell .slice) 1 ((Addr.mk b0_ 0 none).add 8) fun (x92_ : SL) =>
 f29c10 X L b0_ go23_ (ltB 0 ((x92_.2.1 : Nat) : Int))))
 (M.load (.cell .slice) 1 ((Addr.mk b0_ 0 none).add 8) fun (x107_ : SL) =>
 f29c11 X L b0_ go23_ (ltB 0 ((x107_.2.1 : Nat) : Int))))
def f29c13 (X : XT) (L : LoopI) (b0_ : Nat) (go23_ : ((Bool) × Unit) → M (Value)) (v126_ : Bool) : M (Value) :=
 M.ite v126_
 (M.load (.cell (.int .i64)) 1 ((Addr.mk b0_ 0 none).add 0) fun (x127_ : Int) =>
 M.ite (!(eqB x127_ 11))
 (go23_ (true, ()))
 (M.load (.cell .bool) 1 ((Addr.mk b0_ 0 none).add 2) fun (x129_ : Bool) =>
 M.ite x129_
 (M.load (.cell (.int .i64)) 1 ((Addr.mk b0_ 0 none).add 0) fun (x130_ : Int) =>
 M.ite (!(eqB x130_ 15))
 (M.load (.cell (.int .i64)) 1 ((Addr.mk b0_ 0 none).add 0) fun (x132_ : Int) =>
 go23_ ((!(eqB x132_ 16)), ()))
 (go23_ (false, ())))
 (go23_ (false, ()))))
 (M.load (.cell .bool) 1 ((Addr.mk b0_ 0 none).add 2) fun (x134_ : Bool) =>
 M.ite x134_
 (M.load (.cell (.int .i64)) 1 ((Addr.mk b0_ 0 none).add 0) fun (x135_ : Int) =>
 M.ite (!(eqB x135_ 15))
 (M.load (.cell (.int .i64)) 1 ((Addr.mk b0_ 0 none).add 0) fun (x137_ : Int) =>
 go23_ ((!(eqB x137_ 16)), ()))
 (go23_ (false, ())))
 (go23_ (false, ())))
def f29c14 (X : XT) (L : LoopI) (b0_ : Nat) (go23_ : ((Bool) × Unit) → M (Value)) (v141_ : Bool) : M (Value) :=
 M.ite v141_
 (M.load (.cell (.int .i64)) 1 ((Addr.mk b0_ 0 none).add 0) fun (x142_ : Int) =>
 M.ite (!(eqB x142_ 11))
 (go23_ (true, ()))
 (M.load (.cell .bool) 1 ((Addr.mk b0_ 0 none).add 2) fun (x144_ : Bool) =>
 M.ite x144_
 (M.load (.cell (.int .i64)) 1 ((Addr.mk b0_ 0 none).add 0) fun (x145_ : Int) =>
 M.ite (!(eqB x145_ 15))
 (M.load (.cell (.int .i64)) 1 ((Addr.mk b0_ 0 none).add 0) fun (x147_ : Int) =>
 go23_ ((!(eqB x147_ 16)), ()))
 (go23_ (false, ())))
 (go23_ (false, ()))))
 (M.load (.cell .bool) 1 ((Addr.mk b0_ 0 none).add 2) fun (x149_ : Bool) =>
 M.ite x149_
 (M.load (.cell (.int .i64)) 1 ((Addr.mk b0_ 0 none).add 0) fun (x150_ : Int) =>
 M.ite (!(eqB x150_ 15))
 (M.load (.cell (.int .i64)) 1 ((Addr.mk b0_ 0 none).add 0) fun (x152_ : Int) =>
 go23_ ((!(eqB x152_ 16)), ()))
 (go23_ (false, ())))
 (go23_ (false, ())))
def f29c15 (X : XT) (L : LoopI) (b0_ : Nat) (v6_ : Bool) (go23_ : ((Bool) × Unit) → M (Value)) : M (Value) :=
 M.load (.cell .slice) 1 ((Addr.mk b0_ 0 none).add 3) fun (x85_ : SL) =>
 M.ite (ltB 0 ((x85_.2.1 : Nat) : Int))
 (f29c12 X L b0_ v6_ go23_)
 (M.ite v6_
 (M.load (.cell (.int .i64)) 1 ((Addr.mk b0_ 0 none).add 0) fun (x122_ : Int) =>
 M.ite (!(eqB x122_ 10))
 (go23_ (true, ()))
 (M.load (.cell .slice) 1 ((Addr.mk b0_ 0 none).add 8) fun (x124_ : SL) =>
 f29c13 X L b0_ go23_ (ltB 0 ((x124_.2.1 : Nat) : Int))))
 (M.load (.cell .slice) 1 ((Addr.mk b0_ 0 none).add 8) fun (x139_ : SL) =>
 f29c14 X L b0_ go23_ (ltB 0 ((x139_.2.1 : Nat) : Int))))
def f29c16 (X : XT) (L : LoopI) (b0_ : Nat) (r2_ : ByteArray) (x4_ : Int × Int × Int × Int × Unit) : M (Value) :=
 aEql PP 66 false false (.agg ⟨[(.int .i64 x4_.1), (.int .i64 x4_.2.1), (.int .i64 x4_.2.2.1), (.int .i64 x4_.2.2.2.1)]⟩) (.agg ⟨[(.int .i64 0), (.int .i64 0), (.int .i64 0), (.int .i64 0)]⟩) fun (q5_ : Bool) =>
 let v6_ : Bool := !q5_
 M.load (.cell (.int .i64)) 1 ((Addr.mk b0_ 0 none).add 1) fun (x7_ : Int) =>
 M.ite (!(eqB x7_ 0))
 (f29c0 X L b0_ r2_ v6_)
 (M.join (fun (j22_ : (Bool) × Unit) =>
 M.ite j22_.1
 (M.pure (.tuple ⟨[(.string st0), (.bool false)]⟩))
 (M.guard (Nat.ble (r2_.size + st18.size) 9223372036854775807)
 (M.load (.cell (.int .i64)) 1 ((Addr.mk b0_ 0 none).add 0) fun (x25_ : Int) =>
 f29c9 X L b0_ (r2_ ++ st18) x25_))) fun go23_ =>
 f29c15 X L b0_ v6_ go23_)
def f29c17 (X : XT) (L : LoopI) (x : (Int × Int × Bool × SL × Int × Int × Int × Int × SL × Unit) × Unit) : M (Value) :=
 M.new (.cells (Row.ofList [(.int .i64 x.1.1), (.int .i64 x.1.2.1), (.bool x.1.2.2.1), (.slice x.1.2.2.2.1.1 x.1.2.2.2.1.2.1 x.1.2.2.2.1.2.2), (.int .i64 x.1.2.2.2.2.1), (.int .i64 x.1.2.2.2.2.2.1), (.int .i64 x.1.2.2.2.2.2.2.1), (.int .i64 x.1.2.2.2.2.2.2.2.1), (.slice x.1.2.2.2.2.2.2.2.2.1.1 x.1.2.2.2.2.2.2.2.2.1.2.1 x.1.2.2.2.2.2.2.2.2.1.2.2)]) 77 false (0, 0) false) fun b0_ =>
 M.load (.cell (.int .i64)) 1 ((Addr.mk b0_ 0 none).add 0) fun (x1_ : Int) =>
 M.callS (.one (.cell .string)) (X (.call 42 [(.int .i64 x1_)])) fun (r2_ : ByteArray) =>
 M.ite (seq r2_ st0)
 (M.pure (.tuple ⟨[(.string st0), (.bool false)]⟩))
 (M.load (.agg [(.int .i64), (.int .i64), (.int .i64), (.int .i64)]) 4 ((Addr.mk b0_ 0 none).add 4) fun (x4_ : Int × Int × Int × Int × Unit) =>
 f29c16 X L b0_ r2_ x4_)
def f29 (X : XT) (L : LoopI) (x : (Int × Int × Bool × SL × Int × Int × Int × Int × SL × Unit) × Unit) : M Value :=
 f29c17 X L x

theorem e29 (X : XT) (L : LoopI) (x : (Int × Int × Bool × SL × Int × Int × Int × Int × SL × Unit) × Unit) : evBody CC { call := X, loop := L } 29 (shsInj [(.agg [(.int .i64), (.int .i64), .bool, .slice, (.int .i64), (.int .i64), (.int .i64), (.int .i64), .slice])] x) = f29 X L x := by kernel_rfl

/-- hayrick/shell.parsed[hayrick/world.Row] -/
def f30c0 (X : XT) (L : LoopI) (s2_ : (ByteArray) × (SL) × (Int) × Unit) (r4_ : (ByteArray) × (ByteArray) × (Bool) × Unit) (x10_ : Int × Int × Bool × SL × Int × Int × Int × Int × SL × Unit) : M (((ByteArray) × (SL) × (Int) × Unit) ⊕ (((SL) × Unit) ⊕ (((SL) × (Int) × (Int) × Unit) ⊕ (Unit)))) :=
 M.new (.cells (Row.ofList [(.int .i64 x10_.1), (.int .i64 x10_.2.1), (.bool x10_.2.2.1), (.slice x10_.2.2.2.1.1 x10_.2.2.2.1.2.1 x10_.2.2.2.1.2.2), (.int .i64 x10_.2.2.2.2.1), (.int .i64 x10_.2.2.2.2.2.1), (.int .i64 x10_.2.2.2.2.2.2.1), (.int .i64 x10_.2.2.2.2.2.2.2.1), (.slice x10_.2.2.2.2.2.2.2.2.1.1 x10_.2.2.2.2.2.2.2.2.1.2.1 x10_.2.2.2.2.2.2.2.2.1.2.2)]) 69 false (0, 0) false) fun b11_ =>
 M.append 69 9 104 s2_.2.1.1 s2_.2.1.2.1 s2_.2.1.2.2 (.slice (some (Addr.mk b11_ 0 none)) 1 1) fun a12_ n13_ c14_ =>
 M.pure (.inl (r4_.2.1, (a12_, n13_, c14_), (addW .i64 s2_.2.2.1 1), ()))
def f30c1 (X : XT) (L : LoopI) (s2_ : (ByteArray) × (SL) × (Int) × Unit) (r4_ : (ByteArray) × (ByteArray) × (Bool) × Unit) (r5_ : (Int × Int × Bool × SL × Int × Int × Int × Int × SL × Unit) × (Bool) × Unit) (b7_ : Nat) : M (((ByteArray) × (SL) × (Int) × Unit) ⊕ (((SL) × Unit) ⊕ (((SL) × (Int) × (Int) × Unit) ⊕ (Unit)))) :=
 M.store (Addr.mk b7_ 0 none) [(.int .i64 r5_.1.1), (.int .i64 r5_.1.2.1), (.bool r5_.1.2.2.1), (.slice r5_.1.2.2.2.1.1 r5_.1.2.2.2.1.2.1 r5_.1.2.2.2.1.2.2), (.int .i64 r5_.1.2.2.2.2.1), (.int .i64 r5_.1.2.2.2.2.2.1), (.int .i64 r5_.1.2.2.2.2.2.2.1), (.int .i64 r5_.1.2.2.2.2.2.2.2.1), (.slice r5_.1.2.2.2.2.2.2.2.2.1.1 r5_.1.2.2.2.2.2.2.2.2.1.2.1 r5_.1.2.2.2.2.2.2.2.2.1.2.2)]
 (M.join (fun (j8_ : (Bool) × Unit) =>
 M.ite j8_.1
 (M.pure (.inr (.inr (.inl ((none, 0, 0), s2_.2.2.1, 5, ())))))
 (M.load (.agg [(.int .i64), (.int .i64), .bool, .slice, (.int .i64), (.int .i64), (.int .i64), (.int .i64), .slice]) 9 (Addr.mk b7_ 0 none) fun (x10_ : Int × Int × Bool × SL × Int × Int × Int × Int × SL × Unit) =>
 f30c0 X L s2_ r4_ x10_)) fun go9_ =>
 M.ite (!r4_.2.2.1)
 (go9_ (true, ()))
 (go9_ ((!r5_.2.1), ())))
def f30c2 (X : XT) (L : LoopI) (x : (ByteArray) × (Value) × Unit) (s2_ : (ByteArray) × (SL) × (Int) × Unit) (r4_ : (ByteArray) × (ByteArray) × (Bool) × Unit) : M (((ByteArray) × (SL) × (Int) × Unit) ⊕ (((SL) × Unit) ⊕ (((SL) × (Int) × (Int) × Unit) ⊕ (Unit)))) :=
 callV CC ⟨X, L⟩ x.2.1 [(.string r4_.1)] fun w6_ => M.need (RSh.prj (.tuple [(.agg [(.int .i64), (.int .i64), .bool, .slice, (.int .i64), (.int .i64), (.int .i64), (.int .i64), .slice]), (.cell .bool)]) w6_) fun (r5_ : (Int × Int × Bool × SL × Int × Int × Int × Int × SL × Unit) × (Bool) × Unit) =>
 M.new (.cells (Row.ofList [(.int .i64 0), (.int .i64 0), (.bool false), (.slice none 0 0), (.int .i64 0), (.int .i64 0), (.int .i64 0), (.int .i64 0), (.slice none 0 0)]) 69 false (0, 0) false) fun b7_ =>
 f30c1 X L s2_ r4_ r5_ b7_
def f30c3 (X : XT) (L : LoopI) (x : (ByteArray) × (Value) × Unit) : M (Value) :=
 M.bind (L (σ := (ByteArray) × (SL) × (Int) × Unit) (ρ := ((SL) × Unit) ⊕ (((SL) × (Int) × (Int) × Unit) ⊕ (Unit))) (fun s2_ =>
 M.ite (!(seq s2_.1 st0))
 (M.callS (.tuple [(.cell .string), (.cell .string), (.cell .bool)]) (X (.call 45 [(.string s2_.1), (.string st13)])) fun (r4_ : (ByteArray) × (ByteArray) × (Bool) × Unit) =>
 f30c2 X L x s2_ r4_)
 (M.pure (.inr (.inl (s2_.2.1, ()))))) (x.1, (none, 0, 0), 1, ())) <| M.sum (fun (j18_ : (SL) × Unit) =>
 M.pure (.tuple ⟨[(.slice j18_.1.1 j18_.1.2.1 j18_.1.2.2), (.int .i64 0), (.int .i64 0)]⟩)) (M.sum (fun (j19_ : (SL) × (Int) × (Int) × Unit) =>
 M.pure (.tuple ⟨[(.slice j19_.1.1 j19_.1.2.1 j19_.1.2.2), (.int .i64 j19_.2.1), (.int .i64 j19_.2.2.1)]⟩)) (fun _ => M.stuck))
def f30 (X : XT) (L : LoopI) (x : (ByteArray) × (Value) × Unit) : M Value :=
 M.ite (ltB 65536 ((x.1.size : Nat) : Int))
 (M.pure (.tuple ⟨[(.slice none 0 0), (.int .i64 0), (.int .i64 3)]⟩))
 (f30c3 X L x)

theorem e30 (X : XT) (L : LoopI) (x : (ByteArray) × (Value) × Unit) : evBody CC { call := X, loop := L } 30 (shsInj [(.cell .string), (.cell .val)] x) = f30 X L x := by kernel_rfl

/-- hayrick/shell.row -/
def f31c0 (X : XT) (L : LoopI) (b0_ : Nat) (j9_ : (Bool) × Unit) : M (Value) :=
 M.load (.agg [(.int .i64), (.int .i64), .bool, .slice, (.int .i64), (.int .i64), (.int .i64), (.int .i64), .slice]) 9 (Addr.mk b0_ 0 none) fun (x11_ : Int × Int × Bool × SL × Int × Int × Int × Int × SL × Unit) =>
 M.pure (.tuple ⟨[(.agg ⟨[(.int .i64 x11_.1), (.int .i64 x11_.2.1), (.bool x11_.2.2.1), (.slice x11_.2.2.2.1.1 x11_.2.2.2.1.2.1 x11_.2.2.2.1.2.2), (.int .i64 x11_.2.2.2.2.1), (.int .i64 x11_.2.2.2.2.2.1), (.int .i64 x11_.2.2.2.2.2.2.1), (.int .i64 x11_.2.2.2.2.2.2.2.1), (.slice x11_.2.2.2.2.2.2.2.2.1.1 x11_.2.2.2.2.2.2.2.2.1.2.1 x11_.2.2.2.2.2.2.2.2.1.2.2)]⟩), (.bool j9_.1)]⟩)
def f31c1 (X : XT) (L : LoopI) (x : (ByteArray) × Unit) (b0_ : Nat) (r8_ : (ByteArray) × (Bool) × Unit) (go10_ : ((Bool) × Unit) → M (Value)) (x12_ : Int × Int × Bool × SL × Int × Int × Int × Int × SL × Unit) : M (Value) :=
 M.ite r8_.2.1
 (M.store (Addr.mk b0_ 0 none) [(.int .i64 x12_.1), (.int .i64 x12_.2.1), (.bool x12_.2.2.1), (.slice x12_.2.2.2.1.1 x12_.2.2.2.1.2.1 x12_.2.2.2.1.2.2), (.int .i64 x12_.2.2.2.2.1), (.int .i64 x12_.2.2.2.2.2.1), (.int .i64 x12_.2.2.2.2.2.2.1), (.int .i64 x12_.2.2.2.2.2.2.2.1), (.slice x12_.2.2.2.2.2.2.2.2.1.1 x12_.2.2.2.2.2.2.2.2.1.2.1 x12_.2.2.2.2.2.2.2.2.1.2.2)]
 (go10_ ((seq r8_.1 x.1), ())))
 (M.store (Addr.mk b0_ 0 none) [(.int .i64 x12_.1), (.int .i64 x12_.2.1), (.bool x12_.2.2.1), (.slice x12_.2.2.2.1.1 x12_.2.2.2.1.2.1 x12_.2.2.2.1.2.2), (.int .i64 x12_.2.2.2.2.1), (.int .i64 x12_.2.2.2.2.2.1), (.int .i64 x12_.2.2.2.2.2.2.1), (.int .i64 x12_.2.2.2.2.2.2.2.1), (.slice x12_.2.2.2.2.2.2.2.2.1.1 x12_.2.2.2.2.2.2.2.2.1.2.1 x12_.2.2.2.2.2.2.2.2.1.2.2)]
 (go10_ (false, ())))
def f31c2 (X : XT) (L : LoopI) (x : (ByteArray) × Unit) (b0_ : Nat) (b1_ : Nat) (r8_ : (ByteArray) × (Bool) × Unit) (go10_ : ((Bool) × Unit) → M (Value)) (x12_ : Int × Int × Bool × SL × Int × Int × Int × Int × SL × Unit) : M (Value) :=
 M.load (.cell .string) 1 ((Addr.mk b1_ 0 none).add 0) fun (x15_ : ByteArray) =>
 M.ite (seq x15_ st0)
 (f31c1 X L x b0_ r8_ go10_ x12_)
 (M.store (Addr.mk b0_ 0 none) [(.int .i64 x12_.1), (.int .i64 x12_.2.1), (.bool x12_.2.2.1), (.slice x12_.2.2.2.1.1 x12_.2.2.2.1.2.1 x12_.2.2.2.1.2.2), (.int .i64 x12_.2.2.2.2.1), (.int .i64 x12_.2.2.2.2.2.1), (.int .i64 x12_.2.2.2.2.2.2.1), (.int .i64 x12_.2.2.2.2.2.2.2.1), (.slice x12_.2.2.2.2.2.2.2.2.1.1 x12_.2.2.2.2.2.2.2.2.1.2.1 x12_.2.2.2.2.2.2.2.2.1.2.2)]
 (go10_ (false, ())))
def f31c3 (X : XT) (L : LoopI) (x : (ByteArray) × Unit) (b0_ : Nat) (b1_ : Nat) (r8_ : (ByteArray) × (Bool) × Unit) (go10_ : ((Bool) × Unit) → M (Value)) (x12_ : Int × Int × Bool × SL × Int × Int × Int × Int × SL × Unit) : M (Value) :=
 M.load (.cell .bool) 1 ((Addr.mk b1_ 0 none).add 1) fun (x13_ : Bool) =>
 M.ite (!x13_)
 (f31c2 X L x b0_ b1_ r8_ go10_ x12_)
 (M.store (Addr.mk b0_ 0 none) [(.int .i64 x12_.1), (.int .i64 x12_.2.1), (.bool x12_.2.2.1), (.slice x12_.2.2.2.1.1 x12_.2.2.2.1.2.1 x12_.2.2.2.1.2.2), (.int .i64 x12_.2.2.2.2.1), (.int .i64 x12_.2.2.2.2.2.1), (.int .i64 x12_.2.2.2.2.2.2.1), (.int .i64 x12_.2.2.2.2.2.2.2.1), (.slice x12_.2.2.2.2.2.2.2.2.1.1 x12_.2.2.2.2.2.2.2.2.1.2.1 x12_.2.2.2.2.2.2.2.2.1.2.2)]
 (go10_ (false, ())))
def f31c4 (X : XT) (L : LoopI) (x : (ByteArray) × Unit) (b0_ : Nat) (b1_ : Nat) (b3_ : Nat) (x7_ : Int × Int × Bool × SL × Int × Int × Int × Int × SL × Unit) : M (Value) :=
 M.callS (.tuple [(.cell .string), (.cell .bool)]) (X (.call 28 [(.agg ⟨[(.int .i64 x7_.1), (.int .i64 x7_.2.1), (.bool x7_.2.2.1), (.slice x7_.2.2.2.1.1 x7_.2.2.2.1.2.1 x7_.2.2.2.1.2.2), (.int .i64 x7_.2.2.2.2.1), (.int .i64 x7_.2.2.2.2.2.1), (.int .i64 x7_.2.2.2.2.2.2.1), (.int .i64 x7_.2.2.2.2.2.2.2.1), (.slice x7_.2.2.2.2.2.2.2.2.1.1 x7_.2.2.2.2.2.2.2.2.1.2.1 x7_.2.2.2.2.2.2.2.2.1.2.2)]⟩)])) fun (r8_ : (ByteArray) × (Bool) × Unit) =>
 M.join (fun (j9_ : (Bool) × Unit) =>
 f31c0 X L b0_ j9_) fun go10_ =>
 M.load (.agg [(.int .i64), (.int .i64), .bool, .slice, (.int .i64), (.int .i64), (.int .i64), (.int .i64), .slice]) 9 (Addr.mk b3_ 0 none) fun (x12_ : Int × Int × Bool × SL × Int × Int × Int × Int × SL × Unit) =>
 f31c3 X L x b0_ b1_ r8_ go10_ x12_
def f31c5 (X : XT) (L : LoopI) (b0_ : Nat) : M (Value) :=
 M.load (.agg [(.int .i64), (.int .i64), .bool, .slice, (.int .i64), (.int .i64), (.int .i64), (.int .i64), .slice]) 9 (Addr.mk b0_ 0 none) fun (x22_ : Int × Int × Bool × SL × Int × Int × Int × Int × SL × Unit) =>
 M.pure (.tuple ⟨[(.agg ⟨[(.int .i64 x22_.1), (.int .i64 x22_.2.1), (.bool x22_.2.2.1), (.slice x22_.2.2.2.1.1 x22_.2.2.2.1.2.1 x22_.2.2.2.1.2.2), (.int .i64 x22_.2.2.2.2.1), (.int .i64 x22_.2.2.2.2.2.1), (.int .i64 x22_.2.2.2.2.2.2.1), (.int .i64 x22_.2.2.2.2.2.2.2.1), (.slice x22_.2.2.2.2.2.2.2.2.1.1 x22_.2.2.2.2.2.2.2.2.1.2.1 x22_.2.2.2.2.2.2.2.2.1.2.2)]⟩), (.bool false)]⟩)
def f31c6 (X : XT) (L : LoopI) (b0_ : Nat) (b3_ : Nat) : M (Value) :=
 M.load (.agg [(.int .i64), (.int .i64), .bool, .slice, (.int .i64), (.int .i64), (.int .i64), (.int .i64), .slice]) 9 (Addr.mk b3_ 0 none) fun (x21_ : Int × Int × Bool × SL × Int × Int × Int × Int × SL × Unit) =>
 M.store (Addr.mk b0_ 0 none) [(.int .i64 x21_.1), (.int .i64 x21_.2.1), (.bool x21_.2.2.1), (.slice x21_.2.2.2.1.1 x21_.2.2.2.1.2.1 x21_.2.2.2.1.2.2), (.int .i64 x21_.2.2.2.2.1), (.int .i64 x21_.2.2.2.2.2.1), (.int .i64 x21_.2.2.2.2.2.2.1), (.int .i64 x21_.2.2.2.2.2.2.2.1), (.slice x21_.2.2.2.2.2.2.2.2.1.1 x21_.2.2.2.2.2.2.2.2.1.2.1 x21_.2.2.2.2.2.2.2.2.1.2.2)]
 (f31c5 X L b0_)
def f31c7 (X : XT) (L : LoopI) (b1_ : Nat) (b3_ : Nat) (go6_ : (Unit) → M (Value)) (r31_ : Int) : M (Value) :=
 M.callS (.one (.cell (.int .i64))) (X (.call 52 [(.pointer (some (Addr.mk b1_ 0 none)))])) fun (r32_ : Int) =>
 M.callS (.one (.cell (.int .i64))) (X (.call 52 [(.pointer (some (Addr.mk b1_ 0 none)))])) fun (r33_ : Int) =>
 M.callS (.one (.cell (.int .i64))) (X (.call 52 [(.pointer (some (Addr.mk b1_ 0 none)))])) fun (r34_ : Int) =>
 M.store (((Addr.mk b3_ 0 none).add 4).add 0) [(.int .i64 r31_)]
 (M.store (((Addr.mk b3_ 0 none).add 4).add 1) [(.int .i64 r32_)]
 (M.store (((Addr.mk b3_ 0 none).add 4).add 2) [(.int .i64 r33_)]
 (M.store (((Addr.mk b3_ 0 none).add 4).add 3) [(.int .i64 r34_)]
 (go6_ (())))))
def f31c8 (X : XT) (L : LoopI) (b1_ : Nat) (b3_ : Nat) (r40_ : Int) (x41_ : SL) : M ((Unit) ⊕ ((Unit) ⊕ (Unit))) :=
 M.callS (.one (.cell .string)) (X (.call 49 [(.pointer (some (Addr.mk b1_ 0 none)))])) fun (r42_ : ByteArray) =>
 M.load (.cell .slice) 1 ((Addr.mk b3_ 0 none).add 8) fun (x43_ : SL) => cond (veqv (.slice x43_.1 x43_.2.1 x43_.2.2) (.slice x41_.1 x41_.2.1 x41_.2.2)) (M.new (.cells (Row.ofList [(.int .i64 r40_), (.string r42_)]) 71 false (0, 0) false) fun b44_ =>
 M.append 71 2 24 x41_.1 x41_.2.1 x41_.2.2 (.slice (some (Addr.mk b44_ 0 none)) 1 1) fun a45_ n46_ c47_ =>
 M.store ((Addr.mk b3_ 0 none).add 8) [(.slice a45_ n46_ c47_)]
 (M.pure (.inl (())))) M.stuck
def f31c9 (X : XT) (L : LoopI) (b1_ : Nat) (b3_ : Nat) : M ((Unit) ⊕ ((Unit) ⊕ (Unit))) :=
 M.join (fun (j38_ : (Bool) × Unit) =>
 M.ite j38_.1
 (M.callS (.one (.cell (.int .i64))) (X (.call 52 [(.pointer (some (Addr.mk b1_ 0 none)))])) fun (r40_ : Int) =>
 M.load (.cell .slice) 1 ((Addr.mk b3_ 0 none).add 8) fun (x41_ : SL) =>
 f31c8 X L b1_ b3_ r40_ x41_)
 (M.pure (.inr (.inl (()))))) fun go39_ =>
 M.load (.cell .string) 1 ((Addr.mk b1_ 0 none).add 0) fun (x48_ : ByteArray) =>
 M.ite (!(seq x48_ st0))
 (M.load (.cell .bool) 1 ((Addr.mk b1_ 0 none).add 1) fun (x50_ : Bool) =>
 go39_ ((!x50_), ()))
 (go39_ (false, ()))
def f31c10 (X : XT) (L : LoopI) (b1_ : Nat) (b3_ : Nat) (go6_ : (Unit) → M (Value)) (v36_ : Bool) : M (Value) :=
 M.ite v36_
 (M.bind (L (σ := Unit) (ρ := (Unit) ⊕ (Unit)) (fun s37_ =>
 f31c9 X L b1_ b3_) (())) <| M.sum (fun (j52_ : Unit) =>
 go6_ (())) (fun _ => M.stuck))
 (M.join (fun (j53_ : (Bool) × Unit) =>
 M.ite j53_.1
 (M.callS (.one (.cell .string)) (X (.call 65 [(.pointer (some (Addr.mk b1_ 0 none)))])) fun (r55_ : ByteArray) =>
 M.store ((Addr.mk b3_ 0 none).add 2) [(.bool (seq r55_ st23))]
 (go6_ (())))
 (go6_ (()))) fun go54_ =>
 M.load (.cell (.int .i64)) 1 ((Addr.mk b3_ 0 none).add 0) fun (x57_ : Int) =>
 M.ite (eqB x57_ 15)
 (go54_ (true, ()))
 (M.load (.cell (.int .i64)) 1 ((Addr.mk b3_ 0 none).add 0) fun (x59_ : Int) =>
 go54_ ((eqB x59_ 16), ())))
def f31c11 (X : XT) (L : LoopI) (b1_ : Nat) (b3_ : Nat) (go6_ : (Unit) → M (Value)) (v24_ : Bool) : M (Value) :=
 M.ite v24_
 (M.callS (.one (.cell .string)) (X (.call 49 [(.pointer (some (Addr.mk b1_ 0 none)))])) fun (r25_ : ByteArray) =>
 M.ofStr 5 r25_ fun a26_ n27_ c28_ =>
 M.store ((Addr.mk b3_ 0 none).add 3) [(.slice a26_ n27_ c28_)]
 (go6_ (())))
 (M.load (.cell (.int .i64)) 1 ((Addr.mk b3_ 0 none).add 0) fun (x29_ : Int) =>
 M.ite (eqB x29_ 10)
 (M.callS (.one (.cell (.int .i64))) (X (.call 52 [(.pointer (some (Addr.mk b1_ 0 none)))])) fun (r31_ : Int) =>
 f31c7 X L b1_ b3_ go6_ r31_)
 (M.load (.cell (.int .i64)) 1 ((Addr.mk b3_ 0 none).add 0) fun (x35_ : Int) =>
 f31c10 X L b1_ b3_ go6_ (eqB x35_ 11)))
def f31c12 (X : XT) (L : LoopI) (x : (ByteArray) × Unit) (b0_ : Nat) (b1_ : Nat) (b3_ : Nat) (r4_ : ByteArray) : M (Value) :=
 M.join (fun (j5_ : Unit) =>
 M.load (.agg [(.int .i64), (.int .i64), .bool, .slice, (.int .i64), (.int .i64), (.int .i64), (.int .i64), .slice]) 9 (Addr.mk b3_ 0 none) fun (x7_ : Int × Int × Bool × SL × Int × Int × Int × Int × SL × Unit) =>
 f31c4 X L x b0_ b1_ b3_ x7_) fun go6_ =>
 M.ite (seq r4_ st21)
 (M.callS (.one (.cell (.int .i64))) (X (.call 52 [(.pointer (some (Addr.mk b1_ 0 none)))])) fun (r19_ : Int) =>
 M.store ((Addr.mk b3_ 0 none).add 1) [(.int .i64 r19_)]
 (go6_ (())))
 (M.ite (!(seq r4_ st22))
 (f31c6 X L b0_ b3_)
 (M.load (.cell (.int .i64)) 1 ((Addr.mk b3_ 0 none).add 0) fun (x23_ : Int) =>
 f31c11 X L b1_ b3_ go6_ (eqB x23_ 7)))
def f31c13 (X : XT) (L : LoopI) (x : (ByteArray) × Unit) (b0_ : Nat) (b1_ : Nat) (r2_ : Int) : M (Value) :=
 M.new (.cells (Row.ofList [(.int .i64 0), (.int .i64 0), (.bool false), (.slice none 0 0), (.int .i64 0), (.int .i64 0), (.int .i64 0), (.int .i64 0), (.slice none 0 0)]) 69 false (0, 0) false) fun b3_ =>
 M.store (Addr.mk b3_ 0 none) [(.int .i64 r2_), (.int .i64 0), (.bool false), (.slice none 0 0), (.int .i64 0), (.int .i64 0), (.int .i64 0), (.int .i64 0), (.slice none 0 0)]
 (M.callS (.one (.cell .string)) (X (.call 65 [(.pointer (some (Addr.mk b1_ 0 none)))])) fun (r4_ : ByteArray) =>
 f31c12 X L x b0_ b1_ b3_ r4_)
def f31 (X : XT) (L : LoopI) (x : (ByteArray) × Unit) : M Value :=
 M.new (.cells (Row.ofList [(.int .i64 0), (.int .i64 0), (.bool false), (.slice none 0 0), (.int .i64 0), (.int .i64 0), (.int .i64 0), (.int .i64 0), (.slice none 0 0)]) 69 false (0, 0) false) fun b0_ =>
 M.new (.cells (Row.ofList [(.string x.1), (.bool false)]) 103 false (0, 0) false) fun b1_ =>
 M.callS (.one (.cell (.int .i64))) (X (.call 46 [(.pointer (some (Addr.mk b1_ 0 none)))])) fun (r2_ : Int) =>
 f31c13 X L x b0_ b1_ r2_

theorem e31 (X : XT) (L : LoopI) (x : (ByteArray) × Unit) : evBody CC { call := X, loop := L } 31 (shsInj [(.cell .string)] x) = f31 X L x := by kernel_rfl

end
end Go.Proofs.YtlcigkdflbfdgaaGreatDoor.sg
