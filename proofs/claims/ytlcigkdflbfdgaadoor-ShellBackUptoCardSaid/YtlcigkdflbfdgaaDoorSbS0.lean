/-
  What the functions come to, part 0: each text, and that the reading gives it.
-/
import Derived.Test.YtlcigkdflbfdgaaDoorSbH
import Derived.KernelRfl
set_option linter.unusedVariables false
namespace Go.Proofs.YtlcigkdflbfdgaaDoor.sb
open Go Go.Eng
noncomputable section
/-- hayrick/hayricklaw30.ShellBack -/
def f5c0 (X : XT) (L : LoopI) (x : (SL) × (SL) × (ByteArray) × Unit) (r9_ : (SL) × (Int) × (Int) × Unit) (v10_ : Bool) : M (Value) :=
 M.ite v10_
 (M.callS (.tuple [(.cell .string), (.cell (.int .i64))]) (X (.call 16 [(.slice r9_.1.1 r9_.1.2.1 r9_.1.2.2)])) fun (r11_ : (ByteArray) × (Int) × Unit) =>
 M.join (fun (j12_ : (Bool) × Unit) =>
 M.pure (.bool j12_.1)) fun go13_ =>
 M.ite (eqB r9_.2.1 0)
 (M.ite (eqB r11_.2.1 0)
 (M.ite (seq r11_.1 x.2.2.1)
 (M.callS (.one (.cell .bool)) (X (.call 11 [])) fun (r17_ : Bool) =>
 go13_ (r17_, ()))
 (go13_ (false, ())))
 (go13_ (false, ())))
 (go13_ (false, ())))
 (M.join (fun (j18_ : (Bool) × Unit) =>
 M.pure (.bool j18_.1)) fun go19_ =>
 M.ite (eqB ((r9_.1.2.1 : Nat) : Int) 0)
 (M.callS (.one (.cell .bool)) (X (.call 11 [])) fun (r22_ : Bool) =>
 go19_ (r22_, ()))
 (go19_ (false, ())))
def f5c1 (X : XT) (L : LoopI) (x : (SL) × (SL) × (ByteArray) × Unit) (r6_ : (SL) × (Int) × (Int) × Unit) : M (Value) :=
 M.join (fun (j7_ : Unit) =>
 M.callS (.tuple [(.cell .slice), (.cell (.int .i64)), (.cell (.int .i64))]) (X (.call 17 [(.string x.2.2.1)])) fun (r9_ : (SL) × (Int) × (Int) × Unit) =>
 f5c0 X L x r9_ (eqB r9_.2.2.1 0)) fun go8_ =>
 M.ite (eqB r6_.2.2.1 0)
 (M.callS (.tuple [(.cell .string), (.cell (.int .i64))]) (X (.call 12 [(.slice r6_.1.1 r6_.1.2.1 r6_.1.2.2)])) fun (r24_ : (ByteArray) × (Int) × Unit) =>
 M.join (fun (j25_ : (Bool) × Unit) =>
 M.ite j25_.1
 (M.pure (.bool false))
 (go8_ (()))) fun go26_ =>
 M.ite (!(eqB r6_.2.1 0))
 (go26_ (true, ()))
 (M.ite (!(eqB r24_.2.1 0))
 (go26_ (true, ()))
 (go26_ ((!(seq r24_.1 x.2.2.1)), ()))))
 (M.ite (ltB 0 ((r6_.1.2.1 : Nat) : Int))
 (M.pure (.bool false))
 (go8_ (())))
def f5c2 (X : XT) (L : LoopI) (x : (SL) × (SL) × (ByteArray) × Unit) (r3_ : (ByteArray) × (Int) × Unit) (r33_ : (SL) × (Int) × (Int) × Unit) (go35_ : ((Bool) × Unit) → M (Value)) (v36_ : Bool) : M (Value) :=
 M.ite v36_
 (go35_ (true, ()))
 (M.ite (!(eqB r33_.2.1 0))
 (go35_ (true, ()))
 (M.callS (.one (.cell .slice)) (X (.call 19 [(.slice r33_.1.1 r33_.1.2.1 r33_.1.2.2)])) fun (r38_ : SL) =>
 M.callS (.one (.cell .slice)) (X (.call 19 [(.slice x.2.1.1 x.2.1.2.1 x.2.1.2.2)])) fun (r39_ : SL) =>
 M.callS (.one (.cell .bool)) (X (.call 18 [(.slice r38_.1 r38_.2.1 r38_.2.2), (.slice r39_.1 r39_.2.1 r39_.2.2)])) fun (r40_ : Bool) =>
 M.ite (!r40_)
 (go35_ (true, ()))
 (go35_ ((ltB 65536 ((r3_.1.size : Nat) : Int)), ()))))
def f5c3 (X : XT) (L : LoopI) (x : (SL) × (SL) × (ByteArray) × Unit) (r3_ : (ByteArray) × (Int) × Unit) (go5_ : (Unit) → M (Value)) (v32_ : Bool) : M (Value) :=
 M.ite v32_
 (M.callS (.tuple [(.cell .slice), (.cell (.int .i64)), (.cell (.int .i64))]) (X (.call 17 [(.string r3_.1)])) fun (r33_ : (SL) × (Int) × (Int) × Unit) =>
 M.join (fun (j34_ : (Bool) × Unit) =>
 M.ite j34_.1
 (M.pure (.bool false))
 (go5_ (()))) fun go35_ =>
 f5c2 X L x r3_ r33_ go35_ (!(eqB r33_.2.2.1 0)))
 (M.join (fun (j44_ : (Bool) × Unit) =>
 M.ite j44_.1
 (M.pure (.bool false))
 (go5_ (()))) fun go45_ =>
 M.ite (!(seq r3_.1 st0))
 (go45_ (true, ()))
 (M.ite (!(eqB r3_.2.1 1))
 (go45_ ((!(eqB r3_.2.1 3)), ()))
 (go45_ (false, ()))))
def f5c4 (X : XT) (L : LoopI) (x : (SL) × (SL) × (ByteArray) × Unit) (r0_ : (ByteArray) × (Int) × Unit) (r50_ : (SL) × (Int) × (Int) × Unit) (go52_ : ((Bool) × Unit) → M (Value)) (v53_ : Bool) : M (Value) :=
 M.ite v53_
 (go52_ (true, ()))
 (M.ite (!(eqB r50_.2.1 0))
 (go52_ (true, ()))
 (M.callS (.one (.cell .slice)) (X (.call 15 [(.slice r50_.1.1 r50_.1.2.1 r50_.1.2.2)])) fun (r55_ : SL) =>
 M.callS (.one (.cell .slice)) (X (.call 15 [(.slice x.1.1 x.1.2.1 x.1.2.2)])) fun (r56_ : SL) =>
 M.callS (.one (.cell .bool)) (X (.call 14 [(.slice r55_.1 r55_.2.1 r55_.2.2), (.slice r56_.1 r56_.2.1 r56_.2.2)])) fun (r57_ : Bool) =>
 M.ite (!r57_)
 (go52_ (true, ()))
 (go52_ ((ltB 65536 ((r0_.1.size : Nat) : Int)), ()))))
def f5c5 (X : XT) (L : LoopI) (x : (SL) × (SL) × (ByteArray) × Unit) (r0_ : (ByteArray) × (Int) × Unit) (go2_ : (Unit) → M (Value)) (v49_ : Bool) : M (Value) :=
 M.ite v49_
 (M.callS (.tuple [(.cell .slice), (.cell (.int .i64)), (.cell (.int .i64))]) (X (.call 13 [(.string r0_.1)])) fun (r50_ : (SL) × (Int) × (Int) × Unit) =>
 M.join (fun (j51_ : (Bool) × Unit) =>
 M.ite j51_.1
 (M.pure (.bool false))
 (go2_ (()))) fun go52_ =>
 f5c4 X L x r0_ r50_ go52_ (!(eqB r50_.2.2.1 0)))
 (M.join (fun (j61_ : (Bool) × Unit) =>
 M.ite j61_.1
 (M.pure (.bool false))
 (go2_ (()))) fun go62_ =>
 M.ite (!(seq r0_.1 st0))
 (go62_ (true, ()))
 (M.ite (!(eqB r0_.2.1 1))
 (go62_ ((!(eqB r0_.2.1 3)), ()))
 (go62_ (false, ()))))
def f5c6 (X : XT) (L : LoopI) (x : (SL) × (SL) × (ByteArray) × Unit) : M (Value) :=
 M.callS (.tuple [(.cell .string), (.cell (.int .i64))]) (X (.call 12 [(.slice x.1.1 x.1.2.1 x.1.2.2)])) fun (r0_ : (ByteArray) × (Int) × Unit) =>
 M.join (fun (j1_ : Unit) =>
 M.callS (.tuple [(.cell .string), (.cell (.int .i64))]) (X (.call 16 [(.slice x.2.1.1 x.2.1.2.1 x.2.1.2.2)])) fun (r3_ : (ByteArray) × (Int) × Unit) =>
 M.join (fun (j4_ : Unit) =>
 M.callS (.tuple [(.cell .slice), (.cell (.int .i64)), (.cell (.int .i64))]) (X (.call 13 [(.string x.2.2.1)])) fun (r6_ : (SL) × (Int) × (Int) × Unit) =>
 f5c1 X L x r6_) fun go5_ =>
 f5c3 X L x r3_ go5_ (eqB r3_.2.1 0)) fun go2_ =>
 f5c5 X L x r0_ go2_ (eqB r0_.2.1 0)
def f5 (X : XT) (L : LoopI) (x : (SL) × (SL) × (ByteArray) × Unit) : M Value :=
 f5c6 X L x

theorem e5 (X : XT) (L : LoopI) (x : (SL) × (SL) × (ByteArray) × Unit) : evBody CC { call := X, loop := L } 5 (shsInj [(.cell .slice), (.cell .slice), (.cell .string)] x) = f5 X L x := by kernel_rfl

/-- hayrick/shell.Unquote -/
def f7c0 (X : XT) (L : LoopI) (s8_ : (SL) × (ByteArray) × Unit) (go11_ : ((SL) × (Int) × Unit) → M (((SL) × (ByteArray) × Unit) ⊕ (((SL) × Unit) ⊕ (((ByteArray) × (ByteArray) × (Bool) × Unit) ⊕ (Unit))))) (r18_ : Int) (r19_ : Int) : M (((SL) × (ByteArray) × Unit) ⊕ (((SL) × Unit) ⊕ (((ByteArray) × (ByteArray) × (Bool) × Unit) ⊕ (Unit)))) :=
 M.join (fun (j20_ : (Bool) × Unit) =>
 M.ite j20_.1
 (M.pure (.inr (.inr (.inl (st0, st0, false, ())))))
 (M.guard (decide (0 ≤ 4))
 (M.new (.cells (Row.ofList [(.int .u8 (wrapW .u8 (orW .i64 (IntKind.i64.wrap (r18_ * 2 ^ (min (Int.toNat 4) IntKind.i64.bits))) r19_)))]) 5 false (0, 0) false) fun b25_ =>
 M.append 5 1 1 s8_.1.1 s8_.1.2.1 s8_.1.2.2 (.slice (some (Addr.mk b25_ 0 none)) 1 1) fun a26_ n27_ c28_ =>
 go11_ ((a26_, n27_, c28_), 4, ())))) fun go21_ =>
 M.ite (ltB r18_ 0)
 (go21_ (true, ()))
 (go21_ ((ltB r19_ 0), ()))
def f7c1 (X : XT) (L : LoopI) (s8_ : (SL) × (ByteArray) × Unit) (go11_ : ((SL) × (Int) × Unit) → M (((SL) × (ByteArray) × Unit) ⊕ (((SL) × Unit) ⊕ (((ByteArray) × (ByteArray) × (Bool) × Unit) ⊕ (Unit))))) (j31_ : (Bool) × Unit) : M (((SL) × (ByteArray) × Unit) ⊕ (((SL) × Unit) ⊕ (((ByteArray) × (ByteArray) × (Bool) × Unit) ⊕ (Unit)))) :=
 M.ite j31_.1
 (M.guard (inB 1 s8_.2.1.size)
 (M.new (.cells (Row.ofList [(.int .u8 (byteAt s8_.2.1 1))]) 5 false (0, 0) false) fun b34_ =>
 M.append 5 1 1 s8_.1.1 s8_.1.2.1 s8_.1.2.2 (.slice (some (Addr.mk b34_ 0 none)) 1 1) fun a35_ n36_ c37_ =>
 go11_ ((a35_, n36_, c37_), 2, ())))
 (M.guard (inB 0 s8_.2.1.size)
 (M.new (.cells (Row.ofList [(.int .u8 (byteAt s8_.2.1 0))]) 5 false (0, 0) false) fun b39_ =>
 M.append 5 1 1 s8_.1.1 s8_.1.2.1 s8_.1.2.2 (.slice (some (Addr.mk b39_ 0 none)) 1 1) fun a40_ n41_ c42_ =>
 go11_ ((a40_, n41_, c42_), 1, ())))
def f7c2 (X : XT) (L : LoopI) (s8_ : (SL) × (ByteArray) × Unit) (go11_ : ((SL) × (Int) × Unit) → M (((SL) × (ByteArray) × Unit) ⊕ (((SL) × Unit) ⊕ (((ByteArray) × (ByteArray) × (Bool) × Unit) ⊕ (Unit))))) (j14_ : (Bool) × Unit) : M (((SL) × (ByteArray) × Unit) ⊕ (((SL) × Unit) ⊕ (((ByteArray) × (ByteArray) × (Bool) × Unit) ⊕ (Unit)))) :=
 M.ite j14_.1
 (M.guard (inB 2 s8_.2.1.size)
 (M.guard (inB 3 s8_.2.1.size)
 (M.callS (.one (.cell (.int .i64))) (X (.call 22 [(.string st1), (.int .u8 (byteAt s8_.2.1 2))])) fun (r18_ : Int) =>
 M.callS (.one (.cell (.int .i64))) (X (.call 22 [(.string st1), (.int .u8 (byteAt s8_.2.1 3))])) fun (r19_ : Int) =>
 f7c0 X L s8_ go11_ r18_ r19_)))
 (M.join (fun (j31_ : (Bool) × Unit) =>
 f7c1 X L s8_ go11_ j31_) fun go32_ =>
 M.guard (inB 0 s8_.2.1.size)
 (M.ite (eqB (byteAt s8_.2.1 0) 92)
 (go32_ ((leB 2 ((s8_.2.1.size : Nat) : Int)), ()))
 (go32_ (false, ()))))
def f7c3 (X : XT) (L : LoopI) (x : (ByteArray) × Unit) (r0_ : Int) (v3_ : ByteArray) (v7_ : ByteArray) : M (Value) :=
 M.bind (L (σ := (SL) × (ByteArray) × Unit) (ρ := ((SL) × Unit) ⊕ (((ByteArray) × (ByteArray) × (Bool) × Unit) ⊕ (Unit))) (fun s8_ =>
 M.ite (!(seq s8_.2.1 st0))
 (M.join (fun (j10_ : (SL) × (Int) × Unit) =>
 M.guard (upB j10_.2.1 s8_.2.1.size)
 (M.pure (.inl (j10_.1, (s8_.2.1.extract (Int.toNat j10_.2.1) s8_.2.1.size), ())))) fun go11_ =>
 M.join (fun (j14_ : (Bool) × Unit) =>
 f7c2 X L s8_ go11_ j14_) fun go15_ =>
 M.callS (.one (.cell .bool)) (X (.call 21 [(.string s8_.2.1), (.string st2)])) fun (r47_ : Bool) =>
 M.ite r47_
 (go15_ ((leB 4 ((s8_.2.1.size : Nat) : Int)), ()))
 (go15_ (false, ())))
 (M.pure (.inr (.inl (s8_.1, ()))))) ((none, 0, 0), v7_, ())) <| M.sum (fun (j50_ : (SL) × Unit) =>
 M.toStr j50_.1.1 j50_.1.2.1 fun s51_ =>
 M.callS (.one (.cell .string)) (X (.call 9 [(.string s51_)])) fun (r52_ : ByteArray) =>
 M.ite (!(seq r52_ v3_))
 (M.pure (.tuple ⟨[(.string st0), (.string st0), (.bool false)]⟩))
 (M.guard (upB r0_ x.1.size)
 (M.toStr j50_.1.1 j50_.1.2.1 fun s56_ =>
 M.pure (.tuple ⟨[(.string s56_), (.string (x.1.extract (Int.toNat r0_) x.1.size)), (.bool true)]⟩)))) (M.sum (fun (j57_ : (ByteArray) × (ByteArray) × (Bool) × Unit) =>
 M.pure (.tuple ⟨[(.string j57_.1), (.string j57_.2.1), (.bool j57_.2.2.1)]⟩)) (fun _ => M.stuck))
def f7 (X : XT) (L : LoopI) (x : (ByteArray) × Unit) : M Value :=
 M.callS (.one (.cell (.int .i64))) (X (.call 20 [(.string x.1)])) fun (r0_ : Int) =>
 M.ite (ltB r0_ 0)
 (M.pure (.tuple ⟨[(.string st0), (.string st0), (.bool false)]⟩))
 (M.guard (upB r0_ x.1.size)
 (let v3_ : ByteArray := x.1.extract 0 (Int.toNat r0_)
 let v4_ : Int := subW .i64 r0_ 1
 M.guard (upB v4_ v3_.size)
 (let v5_ : Nat := (Int.toNat v4_)
 M.guard (upB 1 v5_)
 (f7c3 X L x r0_ v3_ (v3_.extract (Int.toNat 1) v5_)))))

theorem e7 (X : XT) (L : LoopI) (x : (ByteArray) × Unit) : evBody CC { call := X, loop := L } 7 (shsInj [(.cell .string)] x) = f7 X L x := by kernel_rfl

/-- hayrick/shell.Quote -/
def f9c0 (X : XT) (L : LoopI) (x : (ByteArray) × Unit) (b0_ : Nat) (i4_ : Int) (go10_ : (Unit) → M ((Unit) ⊕ ((Unit) ⊕ (Unit)))) (v15_ : Int) : M ((Unit) ⊕ ((Unit) ⊕ (Unit))) :=
 M.guard (inB i4_ x.1.size)
 (let v17_ : Int := andW .u8 (byteAt x.1 i4_) 15
 M.guard (inB v17_ st1.size)
 (M.new (.cells (Row.ofList [(.int .u8 v15_), (.int .u8 (byteAt st1 v17_))]) 5 false (0, 0) false) fun b19_ =>
 M.toStr (some (Addr.mk b19_ 0 none)) 2 fun s20_ =>
 M.guard (Nat.ble (st2.size + s20_.size) 9223372036854775807)
 (M.callS (.tuple [(.cell (.int .i64)), (.cell .val)]) (X (.call 26 [(.pointer (some (Addr.mk b0_ 0 none))), (.string (st2 ++ s20_))])) fun (r22_ : (Int) × (Value) × Unit) =>
 go10_ (()))))
def f9c1 (X : XT) (L : LoopI) (b0_ : Nat) (c5_ : Int) (go10_ : (Unit) → M ((Unit) ⊕ ((Unit) ⊕ (Unit)))) : M ((Unit) ⊕ ((Unit) ⊕ (Unit))) :=
 M.join (fun (j23_ : (Bool) × Unit) =>
 M.ite j23_.1
 (M.callS (.one (.cell .val)) (X (.call 23 [(.pointer (some (Addr.mk b0_ 0 none))), (.int .u8 92)])) fun (r25_ : Value) =>
 M.callS (.tuple [(.cell (.int .i64)), (.cell .val)]) (X (.call 27 [(.pointer (some (Addr.mk b0_ 0 none))), (.int .i32 c5_)])) fun (r26_ : (Int) × (Value) × Unit) =>
 go10_ (()))
 (M.callS (.tuple [(.cell (.int .i64)), (.cell .val)]) (X (.call 27 [(.pointer (some (Addr.mk b0_ 0 none))), (.int .i32 c5_)])) fun (r27_ : (Int) × (Value) × Unit) =>
 go10_ (()))) fun go24_ =>
 M.ite (eqB c5_ 34)
 (go24_ (true, ()))
 (go24_ ((eqB c5_ 92), ()))
def f9c2 (X : XT) (L : LoopI) (x : (ByteArray) × Unit) (b0_ : Nat) (i4_ : Int) (c5_ : Int) (r8_ : (Int) × (Int) × Unit) (go10_ : (Unit) → M ((Unit) ⊕ ((Unit) ⊕ (Unit)))) : M ((Unit) ⊕ ((Unit) ⊕ (Unit))) :=
 M.join (fun (j11_ : (Bool) × Unit) =>
 M.ite j11_.1
 (M.guard (inB i4_ x.1.size)
 (M.guard (decide (0 ≤ 4))
 (let v14_ : Int := (((byteAt x.1 i4_) : Int)).fdiv (2 ^ (min (Int.toNat 4) IntKind.u8.bits))
 M.guard (inB v14_ st1.size)
 (f9c0 X L x b0_ i4_ go10_ (byteAt st1 v14_)))))
 (f9c1 X L b0_ c5_ go10_)) fun go12_ =>
 M.ite (ltB c5_ 32)
 (go12_ (true, ()))
 (M.ite (eqB c5_ 127)
 (go12_ (true, ()))
 (let v32_ : Int := addW .i64 i4_ r8_.2.1
 M.guard (upB v32_ x.1.size)
 (let v33_ : Nat := (Int.toNat v32_)
 M.guard (upB i4_ v33_)
 (M.callS (.one (.cell .bool)) (X (.call 25 [(.string (x.1.extract (Int.toNat i4_) v33_))])) fun (r36_ : Bool) =>
 go12_ ((!r36_), ())))))
def f9c3 (X : XT) (L : LoopI) (x : (ByteArray) × Unit) (b0_ : Nat) (b2_ : Nat) : M (Value) :=
 M.bind (L (σ := Unit) (ρ := (Unit) ⊕ (Unit)) (fun s3_ =>
 M.next b2_
 (M.pure (.inr (.inl (())))) fun i4_ c5_ =>
 M.guard (upB i4_ x.1.size)
 (M.callS (.tuple [(.cell (.int .i32)), (.cell (.int .i64))]) (X (.call 24 [(.string (x.1.extract (Int.toNat i4_) x.1.size))])) fun (r8_ : (Int) × (Int) × Unit) =>
 M.join (fun (j9_ : Unit) =>
 M.pure (.inl (()))) fun go10_ =>
 f9c2 X L x b0_ i4_ c5_ r8_ go10_)) (())) <| M.sum (fun (j38_ : Unit) =>
 M.callS (.one (.cell .val)) (X (.call 23 [(.pointer (some (Addr.mk b0_ 0 none))), (.int .u8 34)])) fun (r39_ : Value) =>
 M.callS (.one (.cell .string)) (X (.call 28 [(.pointer (some (Addr.mk b0_ 0 none)))])) fun (r40_ : ByteArray) =>
 M.pure (.string r40_)) (fun _ => M.stuck)
def f9 (X : XT) (L : LoopI) (x : (ByteArray) × Unit) : M Value :=
 M.new (.cells (Row.ofList [(.pointer none), (.slice none 0 0)]) 51 false (0, 0) false) fun b0_ =>
 M.callS (.one (.cell .val)) (X (.call 23 [(.pointer (some (Addr.mk b0_ 0 none))), (.int .u8 34)])) fun (r1_ : Value) =>
 M.new (.iter x.1 0) fun b2_ =>
 f9c3 X L x b0_ b2_

theorem e9 (X : XT) (L : LoopI) (x : (ByteArray) × Unit) : evBody CC { call := X, loop := L } 9 (shsInj [(.cell .string)] x) = f9 X L x := by kernel_rfl

/-- hayrick/hayricklaw30.wakes -/
def f11c0 (X : XT) (L : LoopI) (r7_ : (ByteArray) × (Int) × Unit) (r8_ : (SL) × (Int) × (Int) × Unit) (r9_ : (SL) × (Int) × (Int) × Unit) (go11_ : ((Bool) × Unit) → M (Value)) : M (Value) :=
 M.ite (eqB r7_.2.1 0)
 (M.ite (seq r7_.1 st14)
 (M.ite (eqB r8_.2.2.1 0)
 (M.ite (eqB r8_.2.1 0)
 (M.ite (eqB ((r8_.1.2.1 : Nat) : Int) 2)
 (M.guard (inB 0 r8_.1.2.1)
 (M.deref r8_.1.1 fun a25_ =>
 M.load (.cell (.int .i64)) 1 ((a25_.add ((Int.toNat 0) * 6)).add 3) fun (x26_ : Int) =>
 M.ite (eqB x26_ (-1))
 (M.ite (eqB r9_.2.1 1)
 (go11_ ((eqB r9_.2.2.1 5), ()))
 (go11_ (false, ())))
 (go11_ (false, ()))))
 (go11_ (false, ())))
 (go11_ (false, ())))
 (go11_ (false, ())))
 (go11_ (false, ())))
 (go11_ (false, ()))
def f11c1 (X : XT) (L : LoopI) (r0_ : (ByteArray) × (ByteArray) × (Bool) × Unit) (r1_ : (ByteArray) × (ByteArray) × (Bool) × Unit) (r4_ : (ByteArray) × (Int) × Unit) (r7_ : (ByteArray) × (Int) × Unit) (r8_ : (SL) × (Int) × (Int) × Unit) : M (Value) :=
 M.callS (.tuple [(.cell .slice), (.cell (.int .i64)), (.cell (.int .i64))]) (X (.call 13 [(.string st8)])) fun (r9_ : (SL) × (Int) × (Int) × Unit) =>
 M.join (fun (j10_ : (Bool) × Unit) =>
 M.pure (.bool j10_.1)) fun go11_ =>
 M.callS (.one (.cell .string)) (X (.call 9 [(.string st9)])) fun (r12_ : ByteArray) =>
 M.ite (seq r12_ st10)
 (M.ite (seq r0_.1 st11)
 (M.ite (seq r0_.2.1 st12)
 (M.ite r0_.2.2.1
 (M.ite (!r1_.2.2.1)
 (M.ite (eqB r4_.2.1 0)
 (M.ite (seq r4_.1 st13)
 (f11c0 X L r7_ r8_ r9_ go11_)
 (go11_ (false, ())))
 (go11_ (false, ())))
 (go11_ (false, ())))
 (go11_ (false, ())))
 (go11_ (false, ())))
 (go11_ (false, ())))
 (go11_ (false, ()))
def f11c2 (X : XT) (L : LoopI) (r0_ : (ByteArray) × (ByteArray) × (Bool) × Unit) (r1_ : (ByteArray) × (ByteArray) × (Bool) × Unit) (r4_ : (ByteArray) × (Int) × Unit) (b5_ : Nat) : M (Value) :=
 M.new (.cells (Row.ofList [(.int .i64 10), (.int .i64 0), (.bool false), (.slice none 0 0), (.int .i64 2), (.int .i64 1), (.int .i64 203), (.int .i64 1), (.slice none 0 0), (.int .i64 1), (.int .i64 33), (.bool false), (.slice none 0 0), (.int .i64 0), (.int .i64 0), (.int .i64 0), (.int .i64 0), (.slice none 0 0), (.int .i64 11), (.int .i64 0), (.bool false), (.slice none 0 0), (.int .i64 0), (.int .i64 0), (.int .i64 0), (.int .i64 0), (.slice (some (Addr.mk b5_ 0 none)) 1 1)]) 70 false (0, 0) false) fun b6_ =>
 M.callS (.tuple [(.cell .string), (.cell (.int .i64))]) (X (.call 16 [(.slice (some (Addr.mk b6_ 0 none)) 3 3)])) fun (r7_ : (ByteArray) × (Int) × Unit) =>
 M.callS (.tuple [(.cell .slice), (.cell (.int .i64)), (.cell (.int .i64))]) (X (.call 13 [(.string st7)])) fun (r8_ : (SL) × (Int) × (Int) × Unit) =>
 f11c1 X L r0_ r1_ r4_ r7_ r8_
def f11c3 (X : XT) (L : LoopI) (r0_ : (ByteArray) × (ByteArray) × (Bool) × Unit) (r1_ : (ByteArray) × (ByteArray) × (Bool) × Unit) : M (Value) :=
 M.new (.cells (Row.ofList [(.int .u8 104), (.int .u8 105)]) 5 false (0, 0) false) fun b2_ =>
 M.mark (Addr.mk b2_ 0 none)
 (M.new (.cells (Row.ofList [(.int .i64 8), (.string st5), (.string st0), (.int .i64 3), (.int .i64 0), (.slice (some (Addr.mk b2_ 0 none)) 2 2)]) 65 false (0, 0) false) fun b3_ =>
 M.callS (.tuple [(.cell .string), (.cell (.int .i64))]) (X (.call 12 [(.slice (some (Addr.mk b3_ 0 none)) 1 1)])) fun (r4_ : (ByteArray) × (Int) × Unit) =>
 M.new (.cells (Row.ofList [(.int .i64 2), (.string st6)]) 72 false (0, 0) false) fun b5_ =>
 f11c2 X L r0_ r1_ r4_ b5_)
def f11 (X : XT) (L : LoopI) (x : Unit) : M Value :=
 M.callS (.tuple [(.cell .string), (.cell .string), (.cell .bool)]) (X (.call 7 [(.string st3)])) fun (r0_ : (ByteArray) × (ByteArray) × (Bool) × Unit) =>
 M.callS (.tuple [(.cell .string), (.cell .string), (.cell .bool)]) (X (.call 7 [(.string st4)])) fun (r1_ : (ByteArray) × (ByteArray) × (Bool) × Unit) =>
 f11c3 X L r0_ r1_

theorem e11 (X : XT) (L : LoopI) (x : Unit) : evBody CC { call := X, loop := L } 11 (shsInj [] x) = f11 X L x := by kernel_rfl

/-- hayrick/shell.Text -/
def f12 (X : XT) (L : LoopI) (x : (SL) × Unit) : M Value :=
 M.callS (.tuple [(.cell .string), (.cell (.int .i64))]) (X (.call 30 [(.slice x.1.1 x.1.2.1 x.1.2.2), (.func (.func 31) ⟨[]⟩ ⟨[]⟩)])) fun (r0_ : (ByteArray) × (Int) × Unit) =>
 M.pure (.tuple ⟨[(.string r0_.1), (.int .i64 r0_.2.1)]⟩)

theorem e12 (X : XT) (L : LoopI) (x : (SL) × Unit) : evBody CC { call := X, loop := L } 12 (shsInj [(.cell .slice)] x) = f12 X L x := by kernel_rfl

/-- hayrick/shell.Parse -/
def f13 (X : XT) (L : LoopI) (x : (ByteArray) × Unit) : M Value :=
 M.callS (.tuple [(.cell .slice), (.cell (.int .i64)), (.cell (.int .i64))]) (X (.call 32 [(.string x.1), (.func (.func 33) ⟨[]⟩ ⟨[]⟩)])) fun (r0_ : (SL) × (Int) × (Int) × Unit) =>
 M.pure (.tuple ⟨[(.slice r0_.1.1 r0_.1.2.1 r0_.1.2.2), (.int .i64 r0_.2.1), (.int .i64 r0_.2.2.1)]⟩)

theorem e13 (X : XT) (L : LoopI) (x : (ByteArray) × Unit) : evBody CC { call := X, loop := L } 13 (shsInj [(.cell .string)] x) = f13 X L x := by kernel_rfl

/-- hayrick/hayricklaw30.events -/
def f14c0 (X : XT) (L : LoopI) (b10_ : Nat) (b11_ : Nat) (go14_ : ((Bool) × Unit) → M (((Int) × Unit) ⊕ ((Unit) ⊕ (((Bool) × Unit) ⊕ (Unit))))) (x25_ : Int) : M (((Int) × Unit) ⊕ ((Unit) ⊕ (((Bool) × Unit) ⊕ (Unit)))) :=
 M.load (.cell (.int .i64)) 1 ((Addr.mk b11_ 0 none).add 3) fun (x26_ : Int) =>
 M.ite (!(eqB x25_ x26_))
 (go14_ (true, ()))
 (M.load (.cell (.int .i64)) 1 ((Addr.mk b10_ 0 none).add 4) fun (x28_ : Int) =>
 M.load (.cell (.int .i64)) 1 ((Addr.mk b11_ 0 none).add 4) fun (x29_ : Int) =>
 M.ite (!(eqB x28_ x29_))
 (go14_ (true, ()))
 (M.load (.cell .slice) 1 ((Addr.mk b10_ 0 none).add 5) fun (x31_ : SL) =>
 M.toStr x31_.1 x31_.2.1 fun s32_ =>
 M.load (.cell .slice) 1 ((Addr.mk b11_ 0 none).add 5) fun (x33_ : SL) =>
 M.toStr x33_.1 x33_.2.1 fun s34_ =>
 go14_ ((!(seq s32_ s34_)), ())))
def f14c1 (X : XT) (L : LoopI) (b10_ : Nat) (b11_ : Nat) (go14_ : ((Bool) × Unit) → M (((Int) × Unit) ⊕ ((Unit) ⊕ (((Bool) × Unit) ⊕ (Unit))))) : M (((Int) × Unit) ⊕ ((Unit) ⊕ (((Bool) × Unit) ⊕ (Unit)))) :=
 M.load (.cell .string) 1 ((Addr.mk b10_ 0 none).add 1) fun (x19_ : ByteArray) =>
 M.load (.cell .string) 1 ((Addr.mk b11_ 0 none).add 1) fun (x20_ : ByteArray) =>
 M.ite (!(seq x19_ x20_))
 (go14_ (true, ()))
 (M.load (.cell .string) 1 ((Addr.mk b10_ 0 none).add 2) fun (x22_ : ByteArray) =>
 M.load (.cell .string) 1 ((Addr.mk b11_ 0 none).add 2) fun (x23_ : ByteArray) =>
 M.ite (!(seq x22_ x23_))
 (go14_ (true, ()))
 (M.load (.cell (.int .i64)) 1 ((Addr.mk b10_ 0 none).add 3) fun (x25_ : Int) =>
 f14c0 X L b10_ b11_ go14_ x25_))
def f14c2 (X : XT) (L : LoopI) (s3_ : (Int) × Unit) (a8_ : Addr) (x9_ : Int × ByteArray × ByteArray × Int × Int × SL × Unit) (b10_ : Nat) (b11_ : Nat) : M (((Int) × Unit) ⊕ ((Unit) ⊕ (((Bool) × Unit) ⊕ (Unit)))) :=
 M.load (.agg [(.int .i64), .string, .string, (.int .i64), (.int .i64), .slice]) 6 (a8_.add ((Int.toNat s3_.1) * 6)) fun (x12_ : Int × ByteArray × ByteArray × Int × Int × SL × Unit) => cond (veqv (.agg ⟨[(.int .i64 x12_.1), (.string x12_.2.1), (.string x12_.2.2.1), (.int .i64 x12_.2.2.2.1), (.int .i64 x12_.2.2.2.2.1), (.slice x12_.2.2.2.2.2.1.1 x12_.2.2.2.2.2.1.2.1 x12_.2.2.2.2.2.1.2.2)]⟩) (.agg ⟨[(.int .i64 x9_.1), (.string x9_.2.1), (.string x9_.2.2.1), (.int .i64 x9_.2.2.2.1), (.int .i64 x9_.2.2.2.2.1), (.slice x9_.2.2.2.2.2.1.1 x9_.2.2.2.2.2.1.2.1 x9_.2.2.2.2.2.1.2.2)]⟩)) (M.store (Addr.mk b11_ 0 none) [(.int .i64 x9_.1), (.string x9_.2.1), (.string x9_.2.2.1), (.int .i64 x9_.2.2.2.1), (.int .i64 x9_.2.2.2.2.1), (.slice x9_.2.2.2.2.2.1.1 x9_.2.2.2.2.2.1.2.1 x9_.2.2.2.2.2.1.2.2)]
 (M.join (fun (j13_ : (Bool) × Unit) =>
 M.ite j13_.1
 (M.pure (.inr (.inr (.inl (false, ())))))
 (M.pure (.inl ((addW .i64 s3_.1 1), ())))) fun go14_ =>
 M.load (.cell (.int .i64)) 1 ((Addr.mk b10_ 0 none).add 0) fun (x16_ : Int) =>
 M.load (.cell (.int .i64)) 1 ((Addr.mk b11_ 0 none).add 0) fun (x17_ : Int) =>
 M.ite (!(eqB x16_ x17_))
 (go14_ (true, ()))
 (f14c1 X L b10_ b11_ go14_))) M.stuck
def f14c3 (X : XT) (L : LoopI) (s3_ : (Int) × Unit) (x7_ : Int × ByteArray × ByteArray × Int × Int × SL × Unit) (a8_ : Addr) (x9_ : Int × ByteArray × ByteArray × Int × Int × SL × Unit) : M (((Int) × Unit) ⊕ ((Unit) ⊕ (((Bool) × Unit) ⊕ (Unit)))) :=
 M.new (.cells (Row.ofList [(.int .i64 0), (.string st0), (.string st0), (.int .i64 0), (.int .i64 0), (.slice none 0 0)]) 77 false (0, 0) false) fun b10_ =>
 M.new (.cells (Row.ofList [(.int .i64 0), (.string st0), (.string st0), (.int .i64 0), (.int .i64 0), (.slice none 0 0)]) 77 false (0, 0) false) fun b11_ =>
 M.store (Addr.mk b10_ 0 none) [(.int .i64 x7_.1), (.string x7_.2.1), (.string x7_.2.2.1), (.int .i64 x7_.2.2.2.1), (.int .i64 x7_.2.2.2.2.1), (.slice x7_.2.2.2.2.2.1.1 x7_.2.2.2.2.2.1.2.1 x7_.2.2.2.2.2.1.2.2)]
 (f14c2 X L s3_ a8_ x9_ b10_ b11_)
def f14c4 (X : XT) (L : LoopI) (x : (SL) × (SL) × Unit) (s3_ : (Int) × Unit) : M (((Int) × Unit) ⊕ ((Unit) ⊕ (((Bool) × Unit) ⊕ (Unit)))) :=
 M.guard (inB s3_.1 x.1.2.1)
 (M.deref x.1.1 fun a6_ =>
 M.load (.agg [(.int .i64), .string, .string, (.int .i64), (.int .i64), .slice]) 6 (a6_.add ((Int.toNat s3_.1) * 6)) fun (x7_ : Int × ByteArray × ByteArray × Int × Int × SL × Unit) =>
 M.guard (inB s3_.1 x.2.1.2.1)
 (M.deref x.2.1.1 fun a8_ =>
 M.load (.agg [(.int .i64), .string, .string, (.int .i64), (.int .i64), .slice]) 6 (a8_.add ((Int.toNat s3_.1) * 6)) fun (x9_ : Int × ByteArray × ByteArray × Int × Int × SL × Unit) =>
 f14c3 X L s3_ x7_ a8_ x9_))
def f14 (X : XT) (L : LoopI) (x : (SL) × (SL) × Unit) : M Value :=
 M.ite (!(eqB ((x.1.2.1 : Nat) : Int) ((x.2.1.2.1 : Nat) : Int)))
 (M.pure (.bool false))
 (M.bind (L (σ := (Int) × Unit) (ρ := (Unit) ⊕ (((Bool) × Unit) ⊕ (Unit))) (fun s3_ =>
 M.ite (ltB s3_.1 ((x.1.2.1 : Nat) : Int))
 (f14c4 X L x s3_)
 (M.pure (.inr (.inl (()))))) (0, ())) <| M.sum (fun (j36_ : Unit) =>
 M.pure (.bool true)) (M.sum (fun (j37_ : (Bool) × Unit) =>
 M.pure (.bool j37_.1)) (fun _ => M.stuck)))

theorem e14 (X : XT) (L : LoopI) (x : (SL) × (SL) × Unit) : evBody CC { call := X, loop := L } 14 (shsInj [(.cell .slice), (.cell .slice)] x) = f14 X L x := by kernel_rfl

/-- hayrick/hayricklaw30.theirs -/
def f15c0 (X : XT) (L : LoopI) (s0_ : (SL) × (Int) × Unit) (a3_ : Addr) : M (((SL) × (Int) × Unit) ⊕ (((SL) × Unit) ⊕ (Unit))) :=
 M.load (.agg [(.int .i64), .string, .string, (.int .i64), (.int .i64), .slice]) 6 (a3_.add ((Int.toNat s0_.2.1) * 6)) fun (x4_ : Int × ByteArray × ByteArray × Int × Int × SL × Unit) =>
 M.new (.cells (Row.ofList [(.int .i64 x4_.1), (.string x4_.2.1), (.string x4_.2.2.1), (.int .i64 x4_.2.2.2.1), (.int .i64 x4_.2.2.2.2.1), (.slice x4_.2.2.2.2.2.1.1 x4_.2.2.2.2.2.1.2.1 x4_.2.2.2.2.2.1.2.2)]) 77 false (0, 0) false) fun b5_ =>
 M.append 77 6 80 s0_.1.1 s0_.1.2.1 s0_.1.2.2 (.slice (some (Addr.mk b5_ 0 none)) 1 1) fun a6_ n7_ c8_ =>
 M.pure (.inl ((a6_, n7_, c8_), (addW .i64 s0_.2.1 1), ()))
def f15 (X : XT) (L : LoopI) (x : (SL) × Unit) : M Value :=
 M.bind (L (σ := (SL) × (Int) × Unit) (ρ := ((SL) × Unit) ⊕ (Unit)) (fun s0_ =>
 M.ite (ltB s0_.2.1 ((x.1.2.1 : Nat) : Int))
 (M.guard (inB s0_.2.1 x.1.2.1)
 (M.deref x.1.1 fun a3_ =>
 f15c0 X L s0_ a3_))
 (M.pure (.inr (.inl (s0_.1, ()))))) ((none, 0, 0), 0, ())) <| M.sum (fun (j10_ : (SL) × Unit) =>
 M.pure (.slice j10_.1.1 j10_.1.2.1 j10_.1.2.2)) (fun _ => M.stuck)

theorem e15 (X : XT) (L : LoopI) (x : (SL) × Unit) : evBody CC { call := X, loop := L } 15 (shsInj [(.cell .slice)] x) = f15 X L x := by kernel_rfl

/-- hayrick/shell.Rows -/
def f16 (X : XT) (L : LoopI) (x : (SL) × Unit) : M Value :=
 M.callS (.tuple [(.cell .string), (.cell (.int .i64))]) (X (.call 34 [(.slice x.1.1 x.1.2.1 x.1.2.2), (.func (.func 35) ⟨[]⟩ ⟨[]⟩)])) fun (r0_ : (ByteArray) × (Int) × Unit) =>
 M.pure (.tuple ⟨[(.string r0_.1), (.int .i64 r0_.2.1)]⟩)

theorem e16 (X : XT) (L : LoopI) (x : (SL) × Unit) : evBody CC { call := X, loop := L } 16 (shsInj [(.cell .slice)] x) = f16 X L x := by kernel_rfl

/-- hayrick/shell.ParseRows -/
def f17 (X : XT) (L : LoopI) (x : (ByteArray) × Unit) : M Value :=
 M.callS (.tuple [(.cell .slice), (.cell (.int .i64)), (.cell (.int .i64))]) (X (.call 36 [(.string x.1), (.func (.func 37) ⟨[]⟩ ⟨[]⟩)])) fun (r0_ : (SL) × (Int) × (Int) × Unit) =>
 M.pure (.tuple ⟨[(.slice r0_.1.1 r0_.1.2.1 r0_.1.2.2), (.int .i64 r0_.2.1), (.int .i64 r0_.2.2.1)]⟩)

theorem e17 (X : XT) (L : LoopI) (x : (ByteArray) × Unit) : evBody CC { call := X, loop := L } 17 (shsInj [(.cell .string)] x) = f17 X L x := by kernel_rfl

/-- hayrick/hayricklaw30.rows -/
def f18c0 (X : XT) (L : LoopI) (b10_ : Nat) (b11_ : Nat) (go14_ : ((Bool) × Unit) → M (((Int) × Unit) ⊕ ((Unit) ⊕ (((Bool) × Unit) ⊕ (Unit))))) (x30_ : Int × Int × Int × Int × Unit) (x31_ : Int × Int × Int × Int × Unit) : M (((Int) × Unit) ⊕ ((Unit) ⊕ (((Bool) × Unit) ⊕ (Unit)))) :=
 aEql PP 67 false false (.agg ⟨[(.int .i64 x30_.1), (.int .i64 x30_.2.1), (.int .i64 x30_.2.2.1), (.int .i64 x30_.2.2.2.1)]⟩) (.agg ⟨[(.int .i64 x31_.1), (.int .i64 x31_.2.1), (.int .i64 x31_.2.2.1), (.int .i64 x31_.2.2.2.1)]⟩) fun (q32_ : Bool) =>
 M.ite (!q32_)
 (go14_ (true, ()))
 (M.load (.cell .slice) 1 ((Addr.mk b10_ 0 none).add 8) fun (x34_ : SL) =>
 M.load (.cell .slice) 1 ((Addr.mk b11_ 0 none).add 8) fun (x35_ : SL) =>
 M.callS (.one (.cell .bool)) (X (.call 38 [(.slice x34_.1 x34_.2.1 x34_.2.2), (.slice x35_.1 x35_.2.1 x35_.2.2)])) fun (r36_ : Bool) =>
 go14_ ((!r36_), ()))
def f18c1 (X : XT) (L : LoopI) (b10_ : Nat) (b11_ : Nat) (go14_ : ((Bool) × Unit) → M (((Int) × Unit) ⊕ ((Unit) ⊕ (((Bool) × Unit) ⊕ (Unit))))) (x25_ : SL) : M (((Int) × Unit) ⊕ ((Unit) ⊕ (((Bool) × Unit) ⊕ (Unit)))) :=
 M.toStr x25_.1 x25_.2.1 fun s26_ =>
 M.load (.cell .slice) 1 ((Addr.mk b11_ 0 none).add 3) fun (x27_ : SL) =>
 M.toStr x27_.1 x27_.2.1 fun s28_ =>
 M.ite (!(seq s26_ s28_))
 (go14_ (true, ()))
 (M.load (.agg [(.int .i64), (.int .i64), (.int .i64), (.int .i64)]) 4 ((Addr.mk b10_ 0 none).add 4) fun (x30_ : Int × Int × Int × Int × Unit) =>
 M.load (.agg [(.int .i64), (.int .i64), (.int .i64), (.int .i64)]) 4 ((Addr.mk b11_ 0 none).add 4) fun (x31_ : Int × Int × Int × Int × Unit) =>
 f18c0 X L b10_ b11_ go14_ x30_ x31_)
def f18c2 (X : XT) (L : LoopI) (b10_ : Nat) (b11_ : Nat) (go14_ : ((Bool) × Unit) → M (((Int) × Unit) ⊕ ((Unit) ⊕ (((Bool) × Unit) ⊕ (Unit))))) (v18_ : Bool) : M (((Int) × Unit) ⊕ ((Unit) ⊕ (((Bool) × Unit) ⊕ (Unit)))) :=
 M.ite v18_
 (go14_ (true, ()))
 (M.load (.cell (.int .i64)) 1 ((Addr.mk b10_ 0 none).add 1) fun (x19_ : Int) =>
 M.load (.cell (.int .i64)) 1 ((Addr.mk b11_ 0 none).add 1) fun (x20_ : Int) =>
 M.ite (!(eqB x19_ x20_))
 (go14_ (true, ()))
 (M.load (.cell .bool) 1 ((Addr.mk b10_ 0 none).add 2) fun (x22_ : Bool) =>
 M.load (.cell .bool) 1 ((Addr.mk b11_ 0 none).add 2) fun (x23_ : Bool) =>
 M.ite (!(x22_ == x23_))
 (go14_ (true, ()))
 (M.load (.cell .slice) 1 ((Addr.mk b10_ 0 none).add 3) fun (x25_ : SL) =>
 f18c1 X L b10_ b11_ go14_ x25_)))
def f18c3 (X : XT) (L : LoopI) (s3_ : (Int) × Unit) (a8_ : Addr) (x9_ : Int × Int × Bool × SL × Int × Int × Int × Int × SL × Unit) (b10_ : Nat) (b11_ : Nat) : M (((Int) × Unit) ⊕ ((Unit) ⊕ (((Bool) × Unit) ⊕ (Unit)))) :=
 M.load (.agg [(.int .i64), (.int .i64), .bool, .slice, (.int .i64), (.int .i64), (.int .i64), (.int .i64), .slice]) 9 (a8_.add ((Int.toNat s3_.1) * 9)) fun (x12_ : Int × Int × Bool × SL × Int × Int × Int × Int × SL × Unit) => cond (veqv (.agg ⟨[(.int .i64 x12_.1), (.int .i64 x12_.2.1), (.bool x12_.2.2.1), (.slice x12_.2.2.2.1.1 x12_.2.2.2.1.2.1 x12_.2.2.2.1.2.2), (.int .i64 x12_.2.2.2.2.1), (.int .i64 x12_.2.2.2.2.2.1), (.int .i64 x12_.2.2.2.2.2.2.1), (.int .i64 x12_.2.2.2.2.2.2.2.1), (.slice x12_.2.2.2.2.2.2.2.2.1.1 x12_.2.2.2.2.2.2.2.2.1.2.1 x12_.2.2.2.2.2.2.2.2.1.2.2)]⟩) (.agg ⟨[(.int .i64 x9_.1), (.int .i64 x9_.2.1), (.bool x9_.2.2.1), (.slice x9_.2.2.2.1.1 x9_.2.2.2.1.2.1 x9_.2.2.2.1.2.2), (.int .i64 x9_.2.2.2.2.1), (.int .i64 x9_.2.2.2.2.2.1), (.int .i64 x9_.2.2.2.2.2.2.1), (.int .i64 x9_.2.2.2.2.2.2.2.1), (.slice x9_.2.2.2.2.2.2.2.2.1.1 x9_.2.2.2.2.2.2.2.2.1.2.1 x9_.2.2.2.2.2.2.2.2.1.2.2)]⟩)) (M.store (Addr.mk b11_ 0 none) [(.int .i64 x9_.1), (.int .i64 x9_.2.1), (.bool x9_.2.2.1), (.slice x9_.2.2.2.1.1 x9_.2.2.2.1.2.1 x9_.2.2.2.1.2.2), (.int .i64 x9_.2.2.2.2.1), (.int .i64 x9_.2.2.2.2.2.1), (.int .i64 x9_.2.2.2.2.2.2.1), (.int .i64 x9_.2.2.2.2.2.2.2.1), (.slice x9_.2.2.2.2.2.2.2.2.1.1 x9_.2.2.2.2.2.2.2.2.1.2.1 x9_.2.2.2.2.2.2.2.2.1.2.2)]
 (M.join (fun (j13_ : (Bool) × Unit) =>
 M.ite j13_.1
 (M.pure (.inr (.inr (.inl (false, ())))))
 (M.pure (.inl ((addW .i64 s3_.1 1), ())))) fun go14_ =>
 M.load (.cell (.int .i64)) 1 ((Addr.mk b10_ 0 none).add 0) fun (x16_ : Int) =>
 M.load (.cell (.int .i64)) 1 ((Addr.mk b11_ 0 none).add 0) fun (x17_ : Int) =>
 f18c2 X L b10_ b11_ go14_ (!(eqB x16_ x17_)))) M.stuck
def f18c4 (X : XT) (L : LoopI) (s3_ : (Int) × Unit) (x7_ : Int × Int × Bool × SL × Int × Int × Int × Int × SL × Unit) (a8_ : Addr) (x9_ : Int × Int × Bool × SL × Int × Int × Int × Int × SL × Unit) (b10_ : Nat) : M (((Int) × Unit) ⊕ ((Unit) ⊕ (((Bool) × Unit) ⊕ (Unit)))) :=
 M.new (.cells (Row.ofList [(.int .i64 0), (.int .i64 0), (.bool false), (.slice none 0 0), (.int .i64 0), (.int .i64 0), (.int .i64 0), (.int .i64 0), (.slice none 0 0)]) 83 false (0, 0) false) fun b11_ =>
 M.store (Addr.mk b10_ 0 none) [(.int .i64 x7_.1), (.int .i64 x7_.2.1), (.bool x7_.2.2.1), (.slice x7_.2.2.2.1.1 x7_.2.2.2.1.2.1 x7_.2.2.2.1.2.2), (.int .i64 x7_.2.2.2.2.1), (.int .i64 x7_.2.2.2.2.2.1), (.int .i64 x7_.2.2.2.2.2.2.1), (.int .i64 x7_.2.2.2.2.2.2.2.1), (.slice x7_.2.2.2.2.2.2.2.2.1.1 x7_.2.2.2.2.2.2.2.2.1.2.1 x7_.2.2.2.2.2.2.2.2.1.2.2)]
 (f18c3 X L s3_ a8_ x9_ b10_ b11_)
def f18c5 (X : XT) (L : LoopI) (x : (SL) × (SL) × Unit) (s3_ : (Int) × Unit) (x7_ : Int × Int × Bool × SL × Int × Int × Int × Int × SL × Unit) : M (((Int) × Unit) ⊕ ((Unit) ⊕ (((Bool) × Unit) ⊕ (Unit)))) :=
 M.guard (inB s3_.1 x.2.1.2.1)
 (M.deref x.2.1.1 fun a8_ =>
 M.load (.agg [(.int .i64), (.int .i64), .bool, .slice, (.int .i64), (.int .i64), (.int .i64), (.int .i64), .slice]) 9 (a8_.add ((Int.toNat s3_.1) * 9)) fun (x9_ : Int × Int × Bool × SL × Int × Int × Int × Int × SL × Unit) =>
 M.new (.cells (Row.ofList [(.int .i64 0), (.int .i64 0), (.bool false), (.slice none 0 0), (.int .i64 0), (.int .i64 0), (.int .i64 0), (.int .i64 0), (.slice none 0 0)]) 83 false (0, 0) false) fun b10_ =>
 f18c4 X L s3_ x7_ a8_ x9_ b10_)
def f18c6 (X : XT) (L : LoopI) (x : (SL) × (SL) × Unit) : M (Value) :=
 M.bind (L (σ := (Int) × Unit) (ρ := (Unit) ⊕ (((Bool) × Unit) ⊕ (Unit))) (fun s3_ =>
 M.ite (ltB s3_.1 ((x.1.2.1 : Nat) : Int))
 (M.guard (inB s3_.1 x.1.2.1)
 (M.deref x.1.1 fun a6_ =>
 M.load (.agg [(.int .i64), (.int .i64), .bool, .slice, (.int .i64), (.int .i64), (.int .i64), (.int .i64), .slice]) 9 (a6_.add ((Int.toNat s3_.1) * 9)) fun (x7_ : Int × Int × Bool × SL × Int × Int × Int × Int × SL × Unit) =>
 f18c5 X L x s3_ x7_))
 (M.pure (.inr (.inl (()))))) (0, ())) <| M.sum (fun (j38_ : Unit) =>
 M.pure (.bool true)) (M.sum (fun (j39_ : (Bool) × Unit) =>
 M.pure (.bool j39_.1)) (fun _ => M.stuck))
def f18 (X : XT) (L : LoopI) (x : (SL) × (SL) × Unit) : M Value :=
 M.ite (!(eqB ((x.1.2.1 : Nat) : Int) ((x.2.1.2.1 : Nat) : Int)))
 (M.pure (.bool false))
 (f18c6 X L x)

theorem e18 (X : XT) (L : LoopI) (x : (SL) × (SL) × Unit) : evBody CC { call := X, loop := L } 18 (shsInj [(.cell .slice), (.cell .slice)] x) = f18 X L x := by kernel_rfl

/-- hayrick/hayricklaw30.told -/
def f19c0 (X : XT) (L : LoopI) (s0_ : (SL) × (Int) × Unit) (b5_ : Nat) (x6_ : Int) (x7_ : Int) (x8_ : Bool) (x9_ : SL) (x10_ : Int × Int × Int × Int × Unit) : M (((SL) × (Int) × Unit) ⊕ (((SL) × Unit) ⊕ (Unit))) :=
 M.load (.cell .slice) 1 ((Addr.mk b5_ 0 none).add 8) fun (x11_ : SL) =>
 M.new (.cells (Row.ofList [(.int .i64 x6_), (.int .i64 x7_), (.bool x8_), (.slice x9_.1 x9_.2.1 x9_.2.2), (.int .i64 x10_.1), (.int .i64 x10_.2.1), (.int .i64 x10_.2.2.1), (.int .i64 x10_.2.2.2.1), (.slice x11_.1 x11_.2.1 x11_.2.2)]) 83 false (0, 0) false) fun b12_ =>
 M.append 83 9 104 s0_.1.1 s0_.1.2.1 s0_.1.2.2 (.slice (some (Addr.mk b12_ 0 none)) 1 1) fun a13_ n14_ c15_ =>
 M.pure (.inl ((a13_, n14_, c15_), (addW .i64 s0_.2.1 1), ()))
def f19c1 (X : XT) (L : LoopI) (s0_ : (SL) × (Int) × Unit) (x4_ : Int × Int × Bool × SL × Int × Int × Int × Int × SL × Unit) (b5_ : Nat) : M (((SL) × (Int) × Unit) ⊕ (((SL) × Unit) ⊕ (Unit))) :=
 M.store (Addr.mk b5_ 0 none) [(.int .i64 x4_.1), (.int .i64 x4_.2.1), (.bool x4_.2.2.1), (.slice x4_.2.2.2.1.1 x4_.2.2.2.1.2.1 x4_.2.2.2.1.2.2), (.int .i64 x4_.2.2.2.2.1), (.int .i64 x4_.2.2.2.2.2.1), (.int .i64 x4_.2.2.2.2.2.2.1), (.int .i64 x4_.2.2.2.2.2.2.2.1), (.slice x4_.2.2.2.2.2.2.2.2.1.1 x4_.2.2.2.2.2.2.2.2.1.2.1 x4_.2.2.2.2.2.2.2.2.1.2.2)]
 (M.load (.cell (.int .i64)) 1 ((Addr.mk b5_ 0 none).add 0) fun (x6_ : Int) =>
 M.load (.cell (.int .i64)) 1 ((Addr.mk b5_ 0 none).add 1) fun (x7_ : Int) =>
 M.load (.cell .bool) 1 ((Addr.mk b5_ 0 none).add 2) fun (x8_ : Bool) =>
 M.load (.cell .slice) 1 ((Addr.mk b5_ 0 none).add 3) fun (x9_ : SL) =>
 M.load (.agg [(.int .i64), (.int .i64), (.int .i64), (.int .i64)]) 4 ((Addr.mk b5_ 0 none).add 4) fun (x10_ : Int × Int × Int × Int × Unit) =>
 f19c0 X L s0_ b5_ x6_ x7_ x8_ x9_ x10_)
def f19c2 (X : XT) (L : LoopI) (x : (SL) × Unit) (s0_ : (SL) × (Int) × Unit) : M (((SL) × (Int) × Unit) ⊕ (((SL) × Unit) ⊕ (Unit))) :=
 M.guard (inB s0_.2.1 x.1.2.1)
 (M.deref x.1.1 fun a3_ =>
 M.load (.agg [(.int .i64), (.int .i64), .bool, .slice, (.int .i64), (.int .i64), (.int .i64), (.int .i64), .slice]) 9 (a3_.add ((Int.toNat s0_.2.1) * 9)) fun (x4_ : Int × Int × Bool × SL × Int × Int × Int × Int × SL × Unit) =>
 M.new (.cells (Row.ofList [(.int .i64 0), (.int .i64 0), (.bool false), (.slice none 0 0), (.int .i64 0), (.int .i64 0), (.int .i64 0), (.int .i64 0), (.slice none 0 0)]) 70 false (0, 0) false) fun b5_ =>
 f19c1 X L s0_ x4_ b5_)
def f19 (X : XT) (L : LoopI) (x : (SL) × Unit) : M Value :=
 M.bind (L (σ := (SL) × (Int) × Unit) (ρ := ((SL) × Unit) ⊕ (Unit)) (fun s0_ =>
 M.ite (ltB s0_.2.1 ((x.1.2.1 : Nat) : Int))
 (f19c2 X L x s0_)
 (M.pure (.inr (.inl (s0_.1, ()))))) ((none, 0, 0), 0, ())) <| M.sum (fun (j17_ : (SL) × Unit) =>
 M.pure (.slice j17_.1.1 j17_.1.2.1 j17_.1.2.2)) (fun _ => M.stuck)

theorem e19 (X : XT) (L : LoopI) (x : (SL) × Unit) : evBody CC { call := X, loop := L } 19 (shsInj [(.cell .slice)] x) = f19 X L x := by kernel_rfl

/-- hayrick/shell.end -/
def f20c0 (X : XT) (L : LoopI) (b2_ : Nat) : M (Value) :=
 M.bind (L (σ := (Bool) × Unit) (ρ := (Unit) ⊕ (((Int) × Unit) ⊕ (Unit))) (fun s3_ =>
 M.next b2_
 (M.pure (.inr (.inl (())))) fun i4_ c5_ =>
 M.join (fun (j6_ : (Bool) × Unit) =>
 M.pure (.inl (j6_.1, ()))) fun go7_ =>
 M.ite s3_.1
 (go7_ (false, ()))
 (M.ite (eqB c5_ 92)
 (go7_ (true, ()))
 (M.ite (eqB c5_ 34)
 (M.pure (.inr (.inr (.inl ((addW .i64 i4_ 1), ())))))
 (go7_ (s3_.1, ()))))) (true, ())) <| M.sum (fun (j11_ : Unit) =>
 M.pure (.int .i64 (-1))) (M.sum (fun (j12_ : (Int) × Unit) =>
 M.pure (.int .i64 j12_.1)) (fun _ => M.stuck))
def f20 (X : XT) (L : LoopI) (x : (ByteArray) × Unit) : M Value :=
 M.callS (.one (.cell .bool)) (X (.call 21 [(.string x.1), (.string st15)])) fun (r0_ : Bool) =>
 M.ite (!r0_)
 (M.pure (.int .i64 (-1)))
 (M.new (.iter x.1 0) fun b2_ =>
 f20c0 X L b2_)

theorem e20 (X : XT) (L : LoopI) (x : (ByteArray) × Unit) : evBody CC { call := X, loop := L } 20 (shsInj [(.cell .string)] x) = f20 X L x := by kernel_rfl

/-- strings.HasPrefix -/
def f21 (X : XT) (L : LoopI) (x : (ByteArray) × (ByteArray) × Unit) : M Value :=
 M.callS (.one (.cell .bool)) (X (.call 39 [(.string x.1), (.string x.2.1)])) fun (r0_ : Bool) =>
 M.pure (.bool r0_)

theorem e21 (X : XT) (L : LoopI) (x : (ByteArray) × (ByteArray) × Unit) : evBody CC { call := X, loop := L } 21 (shsInj [(.cell .string), (.cell .string)] x) = f21 X L x := by kernel_rfl

/-- strings.IndexByte -/
def f22 (X : XT) (L : LoopI) (x : (ByteArray) × (Int) × Unit) : M Value :=
 M.callS (.one (.cell (.int .i64))) (X (.call 40 [(.string x.1), (.int .u8 x.2.1)])) fun (r0_ : Int) =>
 M.pure (.int .i64 r0_)

theorem e22 (X : XT) (L : LoopI) (x : (ByteArray) × (Int) × Unit) : evBody CC { call := X, loop := L } 22 (shsInj [(.cell .string), (.cell (.int .u8))] x) = f22 X L x := by kernel_rfl

/-- (*strings.Builder).WriteByte -/
def f23 (X : XT) (L : LoopI) (x : (PA) × (Int) × Unit) : M Value :=
 M.callS (.tuple []) (X (.call 41 [(.pointer x.1)])) fun (r0_ : Unit) =>
 M.deref x.1 fun a1_ =>
 M.load (.cell .slice) 1 (a1_.add 1) fun (x2_ : SL) =>
 M.new (.cells (Row.ofList [(.int .u8 x.2.1)]) 5 false (0, 0) false) fun b3_ =>
 M.append 5 1 1 x2_.1 x2_.2.1 x2_.2.2 (.slice (some (Addr.mk b3_ 0 none)) 1 1) fun a4_ n5_ c6_ =>
 M.deref x.1 fun a7_ =>
 M.store (a7_.add 1) [(.slice a4_ n5_ c6_)]
 (M.pure .nilIface)

theorem e23 (X : XT) (L : LoopI) (x : (PA) × (Int) × Unit) : evBody CC { call := X, loop := L } 23 (shsInj [(.cell .ptr), (.cell (.int .u8))] x) = f23 X L x := by kernel_rfl

/-- unicode/utf8.DecodeRuneInString -/
def f24 (X : XT) (L : LoopI) (x : (ByteArray) × Unit) : M Value :=
 M.join (fun (j0_ : (Bool) × Unit) =>
 M.ite j0_.1
 (M.guard (inB 0 x.1.size)
 (M.pure (.tuple ⟨[(.int .i32 (wrapW .i32 (byteAt x.1 0))), (.int .i64 1)]⟩)))
 (M.callS (.tuple [(.cell (.int .i32)), (.cell (.int .i64))]) (X (.call 42 [(.string x.1)])) fun (r4_ : (Int) × (Int) × Unit) =>
 M.pure (.tuple ⟨[(.int .i32 r4_.1), (.int .i64 r4_.2.1)]⟩))) fun go1_ =>
 M.ite (!(seq x.1 st0))
 (M.guard (inB 0 x.1.size)
 (go1_ ((ltB (byteAt x.1 0) 128), ())))
 (go1_ (false, ()))

theorem e24 (X : XT) (L : LoopI) (x : (ByteArray) × Unit) : evBody CC { call := X, loop := L } 24 (shsInj [(.cell .string)] x) = f24 X L x := by kernel_rfl

/-- hayrick/names.Whole -/
def f25c0 (X : XT) (L : LoopI) (x : (ByteArray) × Unit) (b0_ : Nat) : M (Value) :=
 M.bind (L (σ := Unit) (ρ := (Unit) ⊕ (((Bool) × Unit) ⊕ (Unit))) (fun s1_ =>
 M.next b0_
 (M.pure (.inr (.inl (())))) fun i2_ c3_ =>
 M.guard (upB i2_ x.1.size)
 (M.callS (.tuple [(.cell (.int .i32)), (.cell (.int .i64))]) (X (.call 24 [(.string (x.1.extract (Int.toNat i2_) x.1.size))])) fun (r6_ : (Int) × (Int) × Unit) =>
 M.join (fun (j7_ : (Bool) × Unit) =>
 M.ite j7_.1
 (M.pure (.inr (.inr (.inl (false, ())))))
 (M.pure (.inl (())))) fun go8_ =>
 M.ite (eqB c3_ 65533)
 (go8_ ((eqB r6_.2.1 1), ()))
 (go8_ (false, ())))) (())) <| M.sum (fun (j11_ : Unit) =>
 M.pure (.bool true)) (M.sum (fun (j12_ : (Bool) × Unit) =>
 M.pure (.bool j12_.1)) (fun _ => M.stuck))
def f25 (X : XT) (L : LoopI) (x : (ByteArray) × Unit) : M Value :=
 M.new (.iter x.1 0) fun b0_ =>
 f25c0 X L x b0_

theorem e25 (X : XT) (L : LoopI) (x : (ByteArray) × Unit) : evBody CC { call := X, loop := L } 25 (shsInj [(.cell .string)] x) = f25 X L x := by kernel_rfl

/-- (*strings.Builder).WriteString -/
def f26 (X : XT) (L : LoopI) (x : (PA) × (ByteArray) × Unit) : M Value :=
 M.callS (.tuple []) (X (.call 41 [(.pointer x.1)])) fun (r0_ : Unit) =>
 M.deref x.1 fun a1_ =>
 M.load (.cell .slice) 1 (a1_.add 1) fun (x2_ : SL) =>
 M.append 5 1 1 x2_.1 x2_.2.1 x2_.2.2 (.string x.2.1) fun a3_ n4_ c5_ =>
 M.deref x.1 fun a6_ =>
 M.store (a6_.add 1) [(.slice a3_ n4_ c5_)]
 (M.pure (.tuple ⟨[(.int .i64 ((x.2.1.size : Nat) : Int)), .nilIface]⟩))

theorem e26 (X : XT) (L : LoopI) (x : (PA) × (ByteArray) × Unit) : evBody CC { call := X, loop := L } 26 (shsInj [(.cell .ptr), (.cell .string)] x) = f26 X L x := by kernel_rfl

/-- (*strings.Builder).WriteRune -/
def f27c0 (X : XT) (L : LoopI) (x : (PA) × (Int) × Unit) (a1_ : Addr) : M (Value) :=
 M.load (.cell .slice) 1 (a1_.add 1) fun (x2_ : SL) =>
 M.deref x.1 fun a4_ =>
 M.load (.cell .slice) 1 (a4_.add 1) fun (x5_ : SL) =>
 M.callS (.one (.cell .slice)) (X (.call 43 [(.slice x5_.1 x5_.2.1 x5_.2.2), (.int .i32 x.2.1)])) fun (r6_ : SL) =>
 M.deref x.1 fun a7_ =>
 M.store (a7_.add 1) [(.slice r6_.1 r6_.2.1 r6_.2.2)]
 (M.deref x.1 fun a8_ =>
 M.load (.cell .slice) 1 (a8_.add 1) fun (x9_ : SL) =>
 M.pure (.tuple ⟨[(.int .i64 (subW .i64 ((x9_.2.1 : Nat) : Int) ((x2_.2.1 : Nat) : Int))), .nilIface]⟩))
def f27 (X : XT) (L : LoopI) (x : (PA) × (Int) × Unit) : M Value :=
 M.callS (.tuple []) (X (.call 41 [(.pointer x.1)])) fun (r0_ : Unit) =>
 M.deref x.1 fun a1_ =>
 f27c0 X L x a1_

theorem e27 (X : XT) (L : LoopI) (x : (PA) × (Int) × Unit) : evBody CC { call := X, loop := L } 27 (shsInj [(.cell .ptr), (.cell (.int .i32))] x) = f27 X L x := by kernel_rfl

/-- (*strings.Builder).String -/
def f28 (X : XT) (L : LoopI) (x : (PA) × Unit) : M Value :=
 M.deref x.1 fun a0_ =>
 M.load (.cell .slice) 1 (a0_.add 1) fun (x1_ : SL) =>
 M.deref x.1 fun a2_ =>
 M.load (.cell .slice) 1 (a2_.add 1) fun (x3_ : SL) =>
 aBuiltin PP .unsafeSliceData #[46] [(.slice x1_.1 x1_.2.1 x1_.2.2)] fun (w5_ : Value) =>
 M.load (.cell .slice) 1 (a2_.add 1) fun (x6_ : SL) => cond (veqv (.slice x6_.1 x6_.2.1 x6_.2.2) (.slice x3_.1 x3_.2.1 x3_.2.2)) (aBuiltin PP .unsafeString #[86, 3] [w5_, (.int .i64 ((x3_.2.1 : Nat) : Int))] fun (w7_ : Value) =>
 M.pure w7_) M.stuck

theorem e28 (X : XT) (L : LoopI) (x : (PA) × Unit) : evBody CC { call := X, loop := L } 28 (shsInj [(.cell .ptr)] x) = f28 X L x := by kernel_rfl

/-- hayrick/shell.written[hayrick/world.Event] -/
def f30c0 (X : XT) (L : LoopI) (x : (SL) × (Value) × Unit) (b0_ : Nat) (s2_ : (Int) × Unit) (x7_ : Int × ByteArray × ByteArray × Int × Int × SL × Unit) : M (((Int) × Unit) ⊕ ((Unit) ⊕ (((ByteArray) × (Int) × Unit) ⊕ (Unit)))) :=
 callV CC ⟨X, L⟩ x.2.1 [(.agg ⟨[(.int .i64 x7_.1), (.string x7_.2.1), (.string x7_.2.2.1), (.int .i64 x7_.2.2.2.1), (.int .i64 x7_.2.2.2.2.1), (.slice x7_.2.2.2.2.2.1.1 x7_.2.2.2.2.2.1.2.1 x7_.2.2.2.2.2.1.2.2)]⟩)] fun w9_ => M.need (RSh.prj (.tuple [(.cell .string), (.cell .bool)]) w9_) fun (r8_ : (ByteArray) × (Bool) × Unit) =>
 M.ite (!r8_.2.1)
 (M.pure (.inr (.inr (.inl (st0, 1, ())))))
 (M.guard (Nat.ble (r8_.1.size + st16.size) 9223372036854775807)
 (M.callS (.tuple [(.cell (.int .i64)), (.cell .val)]) (X (.call 26 [(.pointer (some (Addr.mk b0_ 0 none))), (.string (r8_.1 ++ st16))])) fun (r12_ : (Int) × (Value) × Unit) =>
 M.pure (.inl ((addW .i64 s2_.1 1), ()))))
def f30c1 (X : XT) (L : LoopI) (x : (SL) × (Value) × Unit) (b0_ : Nat) (s2_ : (Int) × Unit) (x5_ : Int × ByteArray × ByteArray × Int × Int × SL × Unit) : M (((Int) × Unit) ⊕ ((Unit) ⊕ (((ByteArray) × (Int) × Unit) ⊕ (Unit)))) :=
 M.new (.cells (Row.ofList [(.int .i64 0), (.string st0), (.string st0), (.int .i64 0), (.int .i64 0), (.slice none 0 0)]) 65 false (0, 0) false) fun b6_ =>
 M.store (Addr.mk b6_ 0 none) [(.int .i64 x5_.1), (.string x5_.2.1), (.string x5_.2.2.1), (.int .i64 x5_.2.2.2.1), (.int .i64 x5_.2.2.2.2.1), (.slice x5_.2.2.2.2.2.1.1 x5_.2.2.2.2.2.1.2.1 x5_.2.2.2.2.2.1.2.2)]
 (M.load (.agg [(.int .i64), .string, .string, (.int .i64), (.int .i64), .slice]) 6 (Addr.mk b6_ 0 none) fun (x7_ : Int × ByteArray × ByteArray × Int × Int × SL × Unit) =>
 f30c0 X L x b0_ s2_ x7_)
def f30c2 (X : XT) (L : LoopI) (x : (SL) × (Value) × Unit) (b0_ : Nat) (v1_ : Int) : M (Value) :=
 M.bind (L (σ := (Int) × Unit) (ρ := (Unit) ⊕ (((ByteArray) × (Int) × Unit) ⊕ (Unit))) (fun s2_ =>
 M.ite (ltB s2_.1 v1_)
 (M.guard (inB s2_.1 x.1.2.1)
 (M.deref x.1.1 fun a4_ =>
 M.load (.agg [(.int .i64), .string, .string, (.int .i64), (.int .i64), .slice]) 6 (a4_.add ((Int.toNat s2_.1) * 6)) fun (x5_ : Int × ByteArray × ByteArray × Int × Int × SL × Unit) =>
 f30c1 X L x b0_ s2_ x5_))
 (M.pure (.inr (.inl (()))))) (0, ())) <| M.sum (fun (j14_ : Unit) =>
 M.callS (.one (.cell (.int .i64))) (X (.call 44 [(.pointer (some (Addr.mk b0_ 0 none)))])) fun (r15_ : Int) =>
 M.ite (ltB 65536 r15_)
 (M.pure (.tuple ⟨[(.string st0), (.int .i64 3)]⟩))
 (M.callS (.one (.cell .string)) (X (.call 28 [(.pointer (some (Addr.mk b0_ 0 none)))])) fun (r17_ : ByteArray) =>
 M.pure (.tuple ⟨[(.string r17_), (.int .i64 0)]⟩))) (M.sum (fun (j18_ : (ByteArray) × (Int) × Unit) =>
 M.pure (.tuple ⟨[(.string j18_.1), (.int .i64 j18_.2.1)]⟩)) (fun _ => M.stuck))
def f30 (X : XT) (L : LoopI) (x : (SL) × (Value) × Unit) : M Value :=
 M.new (.cells (Row.ofList [(.pointer none), (.slice none 0 0)]) 51 false (0, 0) false) fun b0_ =>
 f30c2 X L x b0_ ((x.1.2.1 : Nat) : Int)

theorem e30 (X : XT) (L : LoopI) (x : (SL) × (Value) × Unit) : evBody CC { call := X, loop := L } 30 (shsInj [(.cell .slice), (.cell .val)] x) = f30 X L x := by kernel_rfl

/-- hayrick/shell.line -/
def f31c0 (X : XT) (L : LoopI) (b3_ : Nat) (b8_ : Nat) (x29_ : Bool) (s31_ : ByteArray) : M (Value) :=
 M.load (.cell .bool) 1 ((Addr.mk b3_ 0 none).add 4) fun (x32_ : Bool) => cond (veqv (.bool x32_) (.bool x29_)) (M.callS (.one (.cell .string)) (X (.call 9 [(.string s31_)])) fun (r33_ : ByteArray) =>
 M.load (.cell .bool) 1 ((Addr.mk b3_ 0 none).add 4) fun (x34_ : Bool) => cond (veqv (.bool x34_) (.bool x29_)) (M.callS (.tuple []) (X (.call 47 [(.bool x29_), (.string r33_), (.pointer (some (Addr.mk b8_ 0 none)))])) fun (r35_ : Unit) =>
 M.load (.cell .string) 1 (Addr.mk b8_ 0 none) fun (x36_ : ByteArray) =>
 M.pure (.tuple ⟨[(.string x36_), (.bool true)]⟩)) M.stuck) M.stuck
def f31c1 (X : XT) (L : LoopI) (b0_ : Nat) (b3_ : Nat) (b8_ : Nat) (x24_ : Bool) (x25_ : Int) : M (Value) :=
 M.callS (.one (.cell .string)) (X (.call 48 [(.int .i64 x25_)])) fun (r26_ : ByteArray) =>
 M.load (.cell .bool) 1 ((Addr.mk b3_ 0 none).add 3) fun (x27_ : Bool) => cond (veqv (.bool x27_) (.bool x24_)) (M.callS (.tuple []) (X (.call 47 [(.bool x24_), (.string r26_), (.pointer (some (Addr.mk b8_ 0 none)))])) fun (r28_ : Unit) =>
 M.load (.cell .bool) 1 ((Addr.mk b3_ 0 none).add 4) fun (x29_ : Bool) =>
 M.load (.cell .slice) 1 ((Addr.mk b0_ 0 none).add 5) fun (x30_ : SL) =>
 M.toStr x30_.1 x30_.2.1 fun s31_ =>
 f31c0 X L b3_ b8_ x29_ s31_) M.stuck
def f31c2 (X : XT) (L : LoopI) (b0_ : Nat) (b3_ : Nat) (b8_ : Nat) (x19_ : Bool) (x20_ : Int) : M (Value) :=
 M.callS (.one (.cell .string)) (X (.call 48 [(.int .i64 x20_)])) fun (r21_ : ByteArray) =>
 M.load (.cell .bool) 1 ((Addr.mk b3_ 0 none).add 2) fun (x22_ : Bool) => cond (veqv (.bool x22_) (.bool x19_)) (M.callS (.tuple []) (X (.call 47 [(.bool x19_), (.string r21_), (.pointer (some (Addr.mk b8_ 0 none)))])) fun (r23_ : Unit) =>
 M.load (.cell .bool) 1 ((Addr.mk b3_ 0 none).add 3) fun (x24_ : Bool) =>
 M.load (.cell (.int .i64)) 1 ((Addr.mk b0_ 0 none).add 4) fun (x25_ : Int) =>
 f31c1 X L b0_ b3_ b8_ x24_ x25_) M.stuck
def f31c3 (X : XT) (L : LoopI) (b0_ : Nat) (b3_ : Nat) (b8_ : Nat) (x14_ : Bool) (x15_ : ByteArray) : M (Value) :=
 M.callS (.one (.cell .string)) (X (.call 9 [(.string x15_)])) fun (r16_ : ByteArray) =>
 M.load (.cell .bool) 1 ((Addr.mk b3_ 0 none).add 1) fun (x17_ : Bool) => cond (veqv (.bool x17_) (.bool x14_)) (M.callS (.tuple []) (X (.call 47 [(.bool x14_), (.string r16_), (.pointer (some (Addr.mk b8_ 0 none)))])) fun (r18_ : Unit) =>
 M.load (.cell .bool) 1 ((Addr.mk b3_ 0 none).add 2) fun (x19_ : Bool) =>
 M.load (.cell (.int .i64)) 1 ((Addr.mk b0_ 0 none).add 3) fun (x20_ : Int) =>
 f31c2 X L b0_ b3_ b8_ x19_ x20_) M.stuck
def f31c4 (X : XT) (L : LoopI) (b0_ : Nat) (b3_ : Nat) (b8_ : Nat) (x9_ : Bool) (x10_ : ByteArray) : M (Value) :=
 M.callS (.one (.cell .string)) (X (.call 9 [(.string x10_)])) fun (r11_ : ByteArray) =>
 M.load (.cell .bool) 1 ((Addr.mk b3_ 0 none).add 0) fun (x12_ : Bool) => cond (veqv (.bool x12_) (.bool x9_)) (M.callS (.tuple []) (X (.call 47 [(.bool x9_), (.string r11_), (.pointer (some (Addr.mk b8_ 0 none)))])) fun (r13_ : Unit) =>
 M.load (.cell .bool) 1 ((Addr.mk b3_ 0 none).add 1) fun (x14_ : Bool) =>
 M.load (.cell .string) 1 ((Addr.mk b0_ 0 none).add 2) fun (x15_ : ByteArray) =>
 f31c3 X L b0_ b3_ b8_ x14_ x15_) M.stuck
def f31c5 (X : XT) (L : LoopI) (b0_ : Nat) (b3_ : Nat) (j4_ : (Bool) × Unit) : M (Value) :=
 M.ite j4_.1
 (M.pure (.tuple ⟨[(.string st0), (.bool false)]⟩))
 (M.load (.cell (.int .i64)) 1 ((Addr.mk b0_ 0 none).add 0) fun (x6_ : Int) =>
 M.callS (.one (.cell .string)) (X (.call 46 [(.int .i64 x6_)])) fun (r7_ : ByteArray) =>
 M.new (.cells (Row.ofList [(.string st0)]) 9 false (0, 0) false) fun b8_ =>
 M.store (Addr.mk b8_ 0 none) [(.string r7_)]
 (M.load (.cell .bool) 1 ((Addr.mk b3_ 0 none).add 0) fun (x9_ : Bool) =>
 M.load (.cell .string) 1 ((Addr.mk b0_ 0 none).add 1) fun (x10_ : ByteArray) =>
 f31c4 X L b0_ b3_ b8_ x9_ x10_))
def f31c6 (X : XT) (L : LoopI) (b0_ : Nat) (b3_ : Nat) (go5_ : ((Bool) × Unit) → M (Value)) (v53_ : Bool) : M (Value) :=
 M.ite v53_
 (M.load (.cell (.int .i64)) 1 ((Addr.mk b0_ 0 none).add 4) fun (x54_ : Int) =>
 M.ite (!(eqB x54_ 0))
 (go5_ (true, ()))
 (M.load (.cell .bool) 1 ((Addr.mk b3_ 0 none).add 4) fun (x56_ : Bool) =>
 M.ite (!x56_)
 (M.load (.cell .slice) 1 ((Addr.mk b0_ 0 none).add 5) fun (x58_ : SL) =>
 go5_ ((ltB 0 ((x58_.2.1 : Nat) : Int)), ()))
 (go5_ (false, ()))))
 (M.load (.cell .bool) 1 ((Addr.mk b3_ 0 none).add 4) fun (x61_ : Bool) =>
 M.ite (!x61_)
 (M.load (.cell .slice) 1 ((Addr.mk b0_ 0 none).add 5) fun (x63_ : SL) =>
 go5_ ((ltB 0 ((x63_.2.1 : Nat) : Int)), ()))
 (go5_ (false, ())))
def f31c7 (X : XT) (L : LoopI) (b0_ : Nat) (b3_ : Nat) (go5_ : ((Bool) × Unit) → M (Value)) (v67_ : Bool) : M (Value) :=
 M.ite v67_
 (M.load (.cell (.int .i64)) 1 ((Addr.mk b0_ 0 none).add 4) fun (x68_ : Int) =>
 M.ite (!(eqB x68_ 0))
 (go5_ (true, ()))
 (M.load (.cell .bool) 1 ((Addr.mk b3_ 0 none).add 4) fun (x70_ : Bool) =>
 M.ite (!x70_)
 (M.load (.cell .slice) 1 ((Addr.mk b0_ 0 none).add 5) fun (x72_ : SL) =>
 go5_ ((ltB 0 ((x72_.2.1 : Nat) : Int)), ()))
 (go5_ (false, ()))))
 (M.load (.cell .bool) 1 ((Addr.mk b3_ 0 none).add 4) fun (x75_ : Bool) =>
 M.ite (!x75_)
 (M.load (.cell .slice) 1 ((Addr.mk b0_ 0 none).add 5) fun (x77_ : SL) =>
 go5_ ((ltB 0 ((x77_.2.1 : Nat) : Int)), ()))
 (go5_ (false, ())))
def f31c8 (X : XT) (L : LoopI) (b0_ : Nat) (b3_ : Nat) (go5_ : ((Bool) × Unit) → M (Value)) : M (Value) :=
 M.load (.cell .string) 1 ((Addr.mk b0_ 0 none).add 2) fun (x46_ : ByteArray) =>
 M.ite (!(seq x46_ st0))
 (go5_ (true, ()))
 (M.load (.cell .bool) 1 ((Addr.mk b3_ 0 none).add 2) fun (x48_ : Bool) =>
 M.ite (!x48_)
 (M.load (.cell (.int .i64)) 1 ((Addr.mk b0_ 0 none).add 3) fun (x50_ : Int) =>
 M.ite (!(eqB x50_ 0))
 (go5_ (true, ()))
 (M.load (.cell .bool) 1 ((Addr.mk b3_ 0 none).add 3) fun (x52_ : Bool) =>
 f31c6 X L b0_ b3_ go5_ (!x52_)))
 (M.load (.cell .bool) 1 ((Addr.mk b3_ 0 none).add 3) fun (x66_ : Bool) =>
 f31c7 X L b0_ b3_ go5_ (!x66_)))
def f31c9 (X : XT) (L : LoopI) (b0_ : Nat) (b3_ : Nat) (go5_ : ((Bool) × Unit) → M (Value)) (v85_ : Bool) : M (Value) :=
 M.ite v85_
 (M.load (.cell (.int .i64)) 1 ((Addr.mk b0_ 0 none).add 4) fun (x86_ : Int) =>
 M.ite (!(eqB x86_ 0))
 (go5_ (true, ()))
 (M.load (.cell .bool) 1 ((Addr.mk b3_ 0 none).add 4) fun (x88_ : Bool) =>
 M.ite (!x88_)
 (M.load (.cell .slice) 1 ((Addr.mk b0_ 0 none).add 5) fun (x90_ : SL) =>
 go5_ ((ltB 0 ((x90_.2.1 : Nat) : Int)), ()))
 (go5_ (false, ()))))
 (M.load (.cell .bool) 1 ((Addr.mk b3_ 0 none).add 4) fun (x93_ : Bool) =>
 M.ite (!x93_)
 (M.load (.cell .slice) 1 ((Addr.mk b0_ 0 none).add 5) fun (x95_ : SL) =>
 go5_ ((ltB 0 ((x95_.2.1 : Nat) : Int)), ()))
 (go5_ (false, ())))
def f31c10 (X : XT) (L : LoopI) (b0_ : Nat) (b3_ : Nat) (go5_ : ((Bool) × Unit) → M (Value)) (v99_ : Bool) : M (Value) :=
 M.ite v99_
 (M.load (.cell (.int .i64)) 1 ((Addr.mk b0_ 0 none).add 4) fun (x100_ : Int) =>
 M.ite (!(eqB x100_ 0))
 (go5_ (true, ()))
 (M.load (.cell .bool) 1 ((Addr.mk b3_ 0 none).add 4) fun (x102_ : Bool) =>
 M.ite (!x102_)
 (M.load (.cell .slice) 1 ((Addr.mk b0_ 0 none).add 5) fun (x104_ : SL) =>
 go5_ ((ltB 0 ((x104_.2.1 : Nat) : Int)), ()))
 (go5_ (false, ()))))
 (M.load (.cell .bool) 1 ((Addr.mk b3_ 0 none).add 4) fun (x107_ : Bool) =>
 M.ite (!x107_)
 (M.load (.cell .slice) 1 ((Addr.mk b0_ 0 none).add 5) fun (x109_ : SL) =>
 go5_ ((ltB 0 ((x109_.2.1 : Nat) : Int)), ()))
 (go5_ (false, ())))
def f31c11 (X : XT) (L : LoopI) (b0_ : Nat) (b3_ : Nat) (go5_ : ((Bool) × Unit) → M (Value)) : M (Value) :=
 M.load (.cell .bool) 1 ((Addr.mk b3_ 0 none).add 1) fun (x44_ : Bool) =>
 M.ite (!x44_)
 (f31c8 X L b0_ b3_ go5_)
 (M.load (.cell .bool) 1 ((Addr.mk b3_ 0 none).add 2) fun (x80_ : Bool) =>
 M.ite (!x80_)
 (M.load (.cell (.int .i64)) 1 ((Addr.mk b0_ 0 none).add 3) fun (x82_ : Int) =>
 M.ite (!(eqB x82_ 0))
 (go5_ (true, ()))
 (M.load (.cell .bool) 1 ((Addr.mk b3_ 0 none).add 3) fun (x84_ : Bool) =>
 f31c9 X L b0_ b3_ go5_ (!x84_)))
 (M.load (.cell .bool) 1 ((Addr.mk b3_ 0 none).add 3) fun (x98_ : Bool) =>
 f31c10 X L b0_ b3_ go5_ (!x98_)))
def f31c12 (X : XT) (L : LoopI) (b0_ : Nat) (b3_ : Nat) (go5_ : ((Bool) × Unit) → M (Value)) (v121_ : Bool) : M (Value) :=
 M.ite v121_
 (M.load (.cell (.int .i64)) 1 ((Addr.mk b0_ 0 none).add 4) fun (x122_ : Int) =>
 M.ite (!(eqB x122_ 0))
 (go5_ (true, ()))
 (M.load (.cell .bool) 1 ((Addr.mk b3_ 0 none).add 4) fun (x124_ : Bool) =>
 M.ite (!x124_)
 (M.load (.cell .slice) 1 ((Addr.mk b0_ 0 none).add 5) fun (x126_ : SL) =>
 go5_ ((ltB 0 ((x126_.2.1 : Nat) : Int)), ()))
 (go5_ (false, ()))))
 (M.load (.cell .bool) 1 ((Addr.mk b3_ 0 none).add 4) fun (x129_ : Bool) =>
 M.ite (!x129_)
 (M.load (.cell .slice) 1 ((Addr.mk b0_ 0 none).add 5) fun (x131_ : SL) =>
 go5_ ((ltB 0 ((x131_.2.1 : Nat) : Int)), ()))
 (go5_ (false, ())))
def f31c13 (X : XT) (L : LoopI) (b0_ : Nat) (b3_ : Nat) (go5_ : ((Bool) × Unit) → M (Value)) (v135_ : Bool) : M (Value) :=
 M.ite v135_
 (M.load (.cell (.int .i64)) 1 ((Addr.mk b0_ 0 none).add 4) fun (x136_ : Int) =>
 M.ite (!(eqB x136_ 0))
 (go5_ (true, ()))
 (M.load (.cell .bool) 1 ((Addr.mk b3_ 0 none).add 4) fun (x138_ : Bool) =>
 M.ite (!x138_)
 (M.load (.cell .slice) 1 ((Addr.mk b0_ 0 none).add 5) fun (x140_ : SL) =>
 go5_ ((ltB 0 ((x140_.2.1 : Nat) : Int)), ()))
 (go5_ (false, ()))))
 (M.load (.cell .bool) 1 ((Addr.mk b3_ 0 none).add 4) fun (x143_ : Bool) =>
 M.ite (!x143_)
 (M.load (.cell .slice) 1 ((Addr.mk b0_ 0 none).add 5) fun (x145_ : SL) =>
 go5_ ((ltB 0 ((x145_.2.1 : Nat) : Int)), ()))
 (go5_ (false, ())))
def f31c14 (X : XT) (L : LoopI) (b0_ : Nat) (b3_ : Nat) (go5_ : ((Bool) × Unit) → M (Value)) : M (Value) :=
 M.load (.cell .string) 1 ((Addr.mk b0_ 0 none).add 2) fun (x114_ : ByteArray) =>
 M.ite (!(seq x114_ st0))
 (go5_ (true, ()))
 (M.load (.cell .bool) 1 ((Addr.mk b3_ 0 none).add 2) fun (x116_ : Bool) =>
 M.ite (!x116_)
 (M.load (.cell (.int .i64)) 1 ((Addr.mk b0_ 0 none).add 3) fun (x118_ : Int) =>
 M.ite (!(eqB x118_ 0))
 (go5_ (true, ()))
 (M.load (.cell .bool) 1 ((Addr.mk b3_ 0 none).add 3) fun (x120_ : Bool) =>
 f31c12 X L b0_ b3_ go5_ (!x120_)))
 (M.load (.cell .bool) 1 ((Addr.mk b3_ 0 none).add 3) fun (x134_ : Bool) =>
 f31c13 X L b0_ b3_ go5_ (!x134_)))
def f31c15 (X : XT) (L : LoopI) (b0_ : Nat) (b3_ : Nat) (go5_ : ((Bool) × Unit) → M (Value)) (v153_ : Bool) : M (Value) :=
 M.ite v153_
 (M.load (.cell (.int .i64)) 1 ((Addr.mk b0_ 0 none).add 4) fun (x154_ : Int) =>
 M.ite (!(eqB x154_ 0))
 (go5_ (true, ()))
 (M.load (.cell .bool) 1 ((Addr.mk b3_ 0 none).add 4) fun (x156_ : Bool) =>
 M.ite (!x156_)
 (M.load (.cell .slice) 1 ((Addr.mk b0_ 0 none).add 5) fun (x158_ : SL) =>
 go5_ ((ltB 0 ((x158_.2.1 : Nat) : Int)), ()))
 (go5_ (false, ()))))
 (M.load (.cell .bool) 1 ((Addr.mk b3_ 0 none).add 4) fun (x161_ : Bool) =>
 M.ite (!x161_)
 (M.load (.cell .slice) 1 ((Addr.mk b0_ 0 none).add 5) fun (x163_ : SL) =>
 go5_ ((ltB 0 ((x163_.2.1 : Nat) : Int)), ()))
 (go5_ (false, ())))
def f31c16 (X : XT) (L : LoopI) (b0_ : Nat) (b3_ : Nat) (go5_ : ((Bool) × Unit) → M (Value)) (v167_ : Bool) : M (Value) :=
 M.ite v167_
 (M.load (.cell (.int .i64)) 1 ((Addr.mk b0_ 0 none).add 4) fun (x168_ : Int) =>
 M.ite (!(eqB x168_ 0))
 (go5_ (true, ()))
 (M.load (.cell .bool) 1 ((Addr.mk b3_ 0 none).add 4) fun (x170_ : Bool) =>
 M.ite (!x170_)
 (M.load (.cell .slice) 1 ((Addr.mk b0_ 0 none).add 5) fun (x172_ : SL) =>
 go5_ ((ltB 0 ((x172_.2.1 : Nat) : Int)), ()))
 (go5_ (false, ()))))
 (M.load (.cell .bool) 1 ((Addr.mk b3_ 0 none).add 4) fun (x175_ : Bool) =>
 M.ite (!x175_)
 (M.load (.cell .slice) 1 ((Addr.mk b0_ 0 none).add 5) fun (x177_ : SL) =>
 go5_ ((ltB 0 ((x177_.2.1 : Nat) : Int)), ()))
 (go5_ (false, ())))
def f31c17 (X : XT) (L : LoopI) (b0_ : Nat) (b3_ : Nat) (go5_ : ((Bool) × Unit) → M (Value)) : M (Value) :=
 M.load (.cell .bool) 1 ((Addr.mk b3_ 0 none).add 1) fun (x112_ : Bool) =>
 M.ite (!x112_)
 (f31c14 X L b0_ b3_ go5_)
 (M.load (.cell .bool) 1 ((Addr.mk b3_ 0 none).add 2) fun (x148_ : Bool) =>
 M.ite (!x148_)
 (M.load (.cell (.int .i64)) 1 ((Addr.mk b0_ 0 none).add 3) fun (x150_ : Int) =>
 M.ite (!(eqB x150_ 0))
 (go5_ (true, ()))
 (M.load (.cell .bool) 1 ((Addr.mk b3_ 0 none).add 3) fun (x152_ : Bool) =>
 f31c15 X L b0_ b3_ go5_ (!x152_)))
 (M.load (.cell .bool) 1 ((Addr.mk b3_ 0 none).add 3) fun (x166_ : Bool) =>
 f31c16 X L b0_ b3_ go5_ (!x166_)))
def f31c18 (X : XT) (L : LoopI) (b0_ : Nat) (b3_ : Nat) : M (Value) :=
 M.join (fun (j4_ : (Bool) × Unit) =>
 f31c5 X L b0_ b3_ j4_) fun go5_ =>
 M.load (.cell (.int .i64)) 1 ((Addr.mk b0_ 0 none).add 0) fun (x37_ : Int) =>
 M.callS (.one (.cell .string)) (X (.call 46 [(.int .i64 x37_)])) fun (r38_ : ByteArray) =>
 M.ite (seq r38_ st0)
 (go5_ (true, ()))
 (M.load (.cell .bool) 1 ((Addr.mk b3_ 0 none).add 0) fun (x40_ : Bool) =>
 M.ite (!x40_)
 (M.load (.cell .string) 1 ((Addr.mk b0_ 0 none).add 1) fun (x42_ : ByteArray) =>
 M.ite (!(seq x42_ st0))
 (go5_ (true, ()))
 (f31c11 X L b0_ b3_ go5_))
 (f31c17 X L b0_ b3_ go5_))
def f31c19 (X : XT) (L : LoopI) (b0_ : Nat) : M (Value) :=
 M.load (.cell (.int .i64)) 1 ((Addr.mk b0_ 0 none).add 0) fun (x1_ : Int) =>
 M.callS (.one (.agg [.bool, .bool, .bool, .bool, .bool])) (X (.call 45 [(.int .i64 x1_)])) fun (r2_ : Bool × Bool × Bool × Bool × Bool × Unit) =>
 M.new (.cells (Row.ofList [(.bool false), (.bool false), (.bool false), (.bool false), (.bool false)]) 90 false (0, 0) false) fun b3_ =>
 M.store (Addr.mk b3_ 0 none) [(.bool r2_.1), (.bool r2_.2.1), (.bool r2_.2.2.1), (.bool r2_.2.2.2.1), (.bool r2_.2.2.2.2.1)]
 (f31c18 X L b0_ b3_)
def f31 (X : XT) (L : LoopI) (x : (Int × ByteArray × ByteArray × Int × Int × SL × Unit) × Unit) : M Value :=
 M.new (.cells (Row.ofList [(.int .i64 x.1.1), (.string x.1.2.1), (.string x.1.2.2.1), (.int .i64 x.1.2.2.2.1), (.int .i64 x.1.2.2.2.2.1), (.slice x.1.2.2.2.2.2.1.1 x.1.2.2.2.2.2.1.2.1 x.1.2.2.2.2.2.1.2.2)]) 65 false (0, 0) false) fun b0_ =>
 f31c19 X L b0_

theorem e31 (X : XT) (L : LoopI) (x : (Int × ByteArray × ByteArray × Int × Int × SL × Unit) × Unit) : evBody CC { call := X, loop := L } 31 (shsInj [(.agg [(.int .i64), .string, .string, (.int .i64), (.int .i64), .slice])] x) = f31 X L x := by kernel_rfl

/-- hayrick/shell.parsed[hayrick/world.Event] -/
def f32c0 (X : XT) (L : LoopI) (s2_ : (ByteArray) × (SL) × (Int) × Unit) (r4_ : (ByteArray) × (ByteArray) × (Bool) × Unit) (b7_ : Nat) : M (((ByteArray) × (SL) × (Int) × Unit) ⊕ (((SL) × Unit) ⊕ (((SL) × (Int) × (Int) × Unit) ⊕ (Unit)))) :=
 M.load (.agg [(.int .i64), .string, .string, (.int .i64), (.int .i64), .slice]) 6 (Addr.mk b7_ 0 none) fun (x10_ : Int × ByteArray × ByteArray × Int × Int × SL × Unit) =>
 M.new (.cells (Row.ofList [(.int .i64 x10_.1), (.string x10_.2.1), (.string x10_.2.2.1), (.int .i64 x10_.2.2.2.1), (.int .i64 x10_.2.2.2.2.1), (.slice x10_.2.2.2.2.2.1.1 x10_.2.2.2.2.2.1.2.1 x10_.2.2.2.2.2.1.2.2)]) 65 false (0, 0) false) fun b11_ =>
 M.append 65 6 80 s2_.2.1.1 s2_.2.1.2.1 s2_.2.1.2.2 (.slice (some (Addr.mk b11_ 0 none)) 1 1) fun a12_ n13_ c14_ =>
 M.pure (.inl (r4_.2.1, (a12_, n13_, c14_), (addW .i64 s2_.2.2.1 1), ()))
def f32c1 (X : XT) (L : LoopI) (s2_ : (ByteArray) × (SL) × (Int) × Unit) (r4_ : (ByteArray) × (ByteArray) × (Bool) × Unit) (r5_ : (Int × ByteArray × ByteArray × Int × Int × SL × Unit) × (Bool) × Unit) : M (((ByteArray) × (SL) × (Int) × Unit) ⊕ (((SL) × Unit) ⊕ (((SL) × (Int) × (Int) × Unit) ⊕ (Unit)))) :=
 M.new (.cells (Row.ofList [(.int .i64 0), (.string st0), (.string st0), (.int .i64 0), (.int .i64 0), (.slice none 0 0)]) 65 false (0, 0) false) fun b7_ =>
 M.store (Addr.mk b7_ 0 none) [(.int .i64 r5_.1.1), (.string r5_.1.2.1), (.string r5_.1.2.2.1), (.int .i64 r5_.1.2.2.2.1), (.int .i64 r5_.1.2.2.2.2.1), (.slice r5_.1.2.2.2.2.2.1.1 r5_.1.2.2.2.2.2.1.2.1 r5_.1.2.2.2.2.2.1.2.2)]
 (M.join (fun (j8_ : (Bool) × Unit) =>
 M.ite j8_.1
 (M.pure (.inr (.inr (.inl ((none, 0, 0), s2_.2.2.1, 5, ())))))
 (f32c0 X L s2_ r4_ b7_)) fun go9_ =>
 M.ite (!r4_.2.2.1)
 (go9_ (true, ()))
 (go9_ ((!r5_.2.1), ())))
def f32c2 (X : XT) (L : LoopI) (x : (ByteArray) × (Value) × Unit) (s2_ : (ByteArray) × (SL) × (Int) × Unit) : M (((ByteArray) × (SL) × (Int) × Unit) ⊕ (((SL) × Unit) ⊕ (((SL) × (Int) × (Int) × Unit) ⊕ (Unit)))) :=
 M.ite (!(seq s2_.1 st0))
 (M.callS (.tuple [(.cell .string), (.cell .string), (.cell .bool)]) (X (.call 49 [(.string s2_.1), (.string st16)])) fun (r4_ : (ByteArray) × (ByteArray) × (Bool) × Unit) =>
 callV CC ⟨X, L⟩ x.2.1 [(.string r4_.1)] fun w6_ => M.need (RSh.prj (.tuple [(.agg [(.int .i64), .string, .string, (.int .i64), (.int .i64), .slice]), (.cell .bool)]) w6_) fun (r5_ : (Int × ByteArray × ByteArray × Int × Int × SL × Unit) × (Bool) × Unit) =>
 f32c1 X L s2_ r4_ r5_)
 (M.pure (.inr (.inl (s2_.2.1, ()))))
def f32c3 (X : XT) (L : LoopI) (x : (ByteArray) × (Value) × Unit) (v1_ : Bool) : M (Value) :=
 M.ite v1_
 (M.pure (.tuple ⟨[(.slice none 0 0), (.int .i64 0), (.int .i64 3)]⟩))
 (M.bind (L (σ := (ByteArray) × (SL) × (Int) × Unit) (ρ := ((SL) × Unit) ⊕ (((SL) × (Int) × (Int) × Unit) ⊕ (Unit))) (fun s2_ =>
 f32c2 X L x s2_) (x.1, (none, 0, 0), 1, ())) <| M.sum (fun (j18_ : (SL) × Unit) =>
 M.pure (.tuple ⟨[(.slice j18_.1.1 j18_.1.2.1 j18_.1.2.2), (.int .i64 0), (.int .i64 0)]⟩)) (M.sum (fun (j19_ : (SL) × (Int) × (Int) × Unit) =>
 M.pure (.tuple ⟨[(.slice j19_.1.1 j19_.1.2.1 j19_.1.2.2), (.int .i64 j19_.2.1), (.int .i64 j19_.2.2.1)]⟩)) (fun _ => M.stuck)))
def f32 (X : XT) (L : LoopI) (x : (ByteArray) × (Value) × Unit) : M Value :=
 f32c3 X L x (ltB 65536 ((x.1.size : Nat) : Int))

theorem e32 (X : XT) (L : LoopI) (x : (ByteArray) × (Value) × Unit) : evBody CC { call := X, loop := L } 32 (shsInj [(.cell .string), (.cell .val)] x) = f32 X L x := by kernel_rfl

/-- hayrick/shell.event -/
def f33c0 (X : XT) (L : LoopI) (x : (ByteArray) × Unit) (b0_ : Nat) (r20_ : (ByteArray) × (Bool) × Unit) (go22_ : ((Bool) × Unit) → M (Value)) (x24_ : Int × ByteArray × ByteArray × Int × Int × SL × Unit) : M (Value) :=
 M.ite r20_.2.1
 (M.store (Addr.mk b0_ 0 none) [(.int .i64 x24_.1), (.string x24_.2.1), (.string x24_.2.2.1), (.int .i64 x24_.2.2.2.1), (.int .i64 x24_.2.2.2.2.1), (.slice x24_.2.2.2.2.2.1.1 x24_.2.2.2.2.2.1.2.1 x24_.2.2.2.2.2.1.2.2)]
 (go22_ ((seq r20_.1 x.1), ())))
 (M.store (Addr.mk b0_ 0 none) [(.int .i64 x24_.1), (.string x24_.2.1), (.string x24_.2.2.1), (.int .i64 x24_.2.2.2.1), (.int .i64 x24_.2.2.2.2.1), (.slice x24_.2.2.2.2.2.1.1 x24_.2.2.2.2.2.1.2.1 x24_.2.2.2.2.2.1.2.2)]
 (go22_ (false, ())))
def f33c1 (X : XT) (L : LoopI) (x : (ByteArray) × Unit) (b0_ : Nat) (b2_ : Nat) (r20_ : (ByteArray) × (Bool) × Unit) (go22_ : ((Bool) × Unit) → M (Value)) (x24_ : Int × ByteArray × ByteArray × Int × Int × SL × Unit) (v28_ : Bool) : M (Value) :=
 M.ite v28_
 (M.load (.cell .ptr) 1 (Addr.mk b2_ 0 none) fun (x29_ : PA) =>
 M.deref x29_ fun a30_ =>
 M.load (.cell .string) 1 (a30_.add 0) fun (x31_ : ByteArray) =>
 M.ite (seq x31_ st0)
 (f33c0 X L x b0_ r20_ go22_ x24_)
 (M.store (Addr.mk b0_ 0 none) [(.int .i64 x24_.1), (.string x24_.2.1), (.string x24_.2.2.1), (.int .i64 x24_.2.2.2.1), (.int .i64 x24_.2.2.2.2.1), (.slice x24_.2.2.2.2.2.1.1 x24_.2.2.2.2.2.1.2.1 x24_.2.2.2.2.2.1.2.2)]
 (go22_ (false, ()))))
 (M.store (Addr.mk b0_ 0 none) [(.int .i64 x24_.1), (.string x24_.2.1), (.string x24_.2.2.1), (.int .i64 x24_.2.2.2.1), (.int .i64 x24_.2.2.2.2.1), (.slice x24_.2.2.2.2.2.1.1 x24_.2.2.2.2.2.1.2.1 x24_.2.2.2.2.2.1.2.2)]
 (go22_ (false, ())))
def f33c2 (X : XT) (L : LoopI) (x : (ByteArray) × Unit) (b0_ : Nat) (b2_ : Nat) (b5_ : Nat) (r20_ : (ByteArray) × (Bool) × Unit) : M (Value) :=
 M.join (fun (j21_ : (Bool) × Unit) =>
 M.load (.agg [(.int .i64), .string, .string, (.int .i64), (.int .i64), .slice]) 6 (Addr.mk b0_ 0 none) fun (x23_ : Int × ByteArray × ByteArray × Int × Int × SL × Unit) =>
 M.pure (.tuple ⟨[(.agg ⟨[(.int .i64 x23_.1), (.string x23_.2.1), (.string x23_.2.2.1), (.int .i64 x23_.2.2.2.1), (.int .i64 x23_.2.2.2.2.1), (.slice x23_.2.2.2.2.2.1.1 x23_.2.2.2.2.2.1.2.1 x23_.2.2.2.2.2.1.2.2)]⟩), (.bool j21_.1)]⟩)) fun go22_ =>
 M.load (.agg [(.int .i64), .string, .string, (.int .i64), (.int .i64), .slice]) 6 (Addr.mk b5_ 0 none) fun (x24_ : Int × ByteArray × ByteArray × Int × Int × SL × Unit) =>
 M.load (.cell .ptr) 1 (Addr.mk b2_ 0 none) fun (x25_ : PA) =>
 M.deref x25_ fun a26_ =>
 M.load (.cell .bool) 1 (a26_.add 1) fun (x27_ : Bool) =>
 f33c1 X L x b0_ b2_ r20_ go22_ x24_ (!x27_)
def f33c3 (X : XT) (L : LoopI) (x : (ByteArray) × Unit) (b0_ : Nat) (b2_ : Nat) (b5_ : Nat) : M (Value) :=
 M.load (.agg [(.int .i64), .string, .string, (.int .i64), (.int .i64), .slice]) 6 (Addr.mk b5_ 0 none) fun (x19_ : Int × ByteArray × ByteArray × Int × Int × SL × Unit) =>
 M.callS (.tuple [(.cell .string), (.cell .bool)]) (X (.call 31 [(.agg ⟨[(.int .i64 x19_.1), (.string x19_.2.1), (.string x19_.2.2.1), (.int .i64 x19_.2.2.2.1), (.int .i64 x19_.2.2.2.2.1), (.slice x19_.2.2.2.2.2.1.1 x19_.2.2.2.2.2.1.2.1 x19_.2.2.2.2.2.1.2.2)]⟩)])) fun (r20_ : (ByteArray) × (Bool) × Unit) =>
 f33c2 X L x b0_ b2_ b5_ r20_
def f33c4 (X : XT) (L : LoopI) (x : (ByteArray) × Unit) (b0_ : Nat) (b2_ : Nat) (b5_ : Nat) (b8_ : Nat) (x15_ : Bool) : M (Value) :=
 M.callS (.tuple []) (X (.call 51 [(.bool x15_), (.func (.func 57) ⟨[]⟩ ⟨[(.pointer (some (Addr.mk b2_ 0 none))), (.pointer (some (Addr.mk b5_ 0 none)))]⟩), (.pointer (some (Addr.mk b2_ 0 none)))])) fun (r16_ : Unit) =>
 M.load (.cell .bool) 1 ((Addr.mk b8_ 0 none).add 4) fun (x17_ : Bool) =>
 M.callS (.tuple []) (X (.call 51 [(.bool x17_), (.func (.func 58) ⟨[]⟩ ⟨[(.pointer (some (Addr.mk b2_ 0 none))), (.pointer (some (Addr.mk b5_ 0 none)))]⟩), (.pointer (some (Addr.mk b2_ 0 none)))])) fun (r18_ : Unit) =>
 f33c3 X L x b0_ b2_ b5_
def f33c5 (X : XT) (L : LoopI) (x : (ByteArray) × Unit) (b0_ : Nat) (b2_ : Nat) (b5_ : Nat) (b8_ : Nat) (x11_ : Bool) : M (Value) :=
 M.callS (.tuple []) (X (.call 51 [(.bool x11_), (.func (.func 54) ⟨[]⟩ ⟨[(.pointer (some (Addr.mk b2_ 0 none))), (.pointer (some (Addr.mk b5_ 0 none)))]⟩), (.pointer (some (Addr.mk b2_ 0 none)))])) fun (r12_ : Unit) =>
 M.load (.cell .bool) 1 ((Addr.mk b8_ 0 none).add 2) fun (x13_ : Bool) =>
 M.callS (.tuple []) (X (.call 51 [(.bool x13_), (.func (.func 55) ⟨[]⟩ ⟨[(.pointer (some (Addr.mk b2_ 0 none))), (.pointer (some (Addr.mk b5_ 0 none)))]⟩), (.pointer (some (Addr.mk b2_ 0 none)))])) fun (r14_ : Unit) =>
 M.load (.cell .bool) 1 ((Addr.mk b8_ 0 none).add 3) fun (x15_ : Bool) =>
 f33c4 X L x b0_ b2_ b5_ b8_ x15_
def f33c6 (X : XT) (L : LoopI) (x : (ByteArray) × Unit) (b0_ : Nat) (b2_ : Nat) (b5_ : Nat) (r7_ : Bool × Bool × Bool × Bool × Bool × Unit) (b8_ : Nat) : M (Value) :=
 M.store (Addr.mk b8_ 0 none) [(.bool r7_.1), (.bool r7_.2.1), (.bool r7_.2.2.1), (.bool r7_.2.2.2.1), (.bool r7_.2.2.2.2.1)]
 (M.load (.cell .bool) 1 ((Addr.mk b8_ 0 none).add 0) fun (x9_ : Bool) =>
 M.callS (.tuple []) (X (.call 51 [(.bool x9_), (.func (.func 52) ⟨[]⟩ ⟨[(.pointer (some (Addr.mk b2_ 0 none))), (.pointer (some (Addr.mk b5_ 0 none)))]⟩), (.pointer (some (Addr.mk b2_ 0 none)))])) fun (r10_ : Unit) =>
 M.load (.cell .bool) 1 ((Addr.mk b8_ 0 none).add 1) fun (x11_ : Bool) =>
 f33c5 X L x b0_ b2_ b5_ b8_ x11_)
def f33c7 (X : XT) (L : LoopI) (x : (ByteArray) × Unit) (b0_ : Nat) (b2_ : Nat) (r4_ : Int) (b5_ : Nat) : M (Value) :=
 M.store (Addr.mk b5_ 0 none) [(.int .i64 r4_), (.string st0), (.string st0), (.int .i64 0), (.int .i64 0), (.slice none 0 0)]
 (M.load (.cell (.int .i64)) 1 ((Addr.mk b5_ 0 none).add 0) fun (x6_ : Int) =>
 M.callS (.one (.agg [.bool, .bool, .bool, .bool, .bool])) (X (.call 45 [(.int .i64 x6_)])) fun (r7_ : Bool × Bool × Bool × Bool × Bool × Unit) =>
 M.new (.cells (Row.ofList [(.bool false), (.bool false), (.bool false), (.bool false), (.bool false)]) 90 false (0, 0) false) fun b8_ =>
 f33c6 X L x b0_ b2_ b5_ r7_ b8_)
def f33c8 (X : XT) (L : LoopI) (x : (ByteArray) × Unit) (b0_ : Nat) : M (Value) :=
 M.new (.cells (Row.ofList [(.string x.1), (.bool false)]) 98 false (0, 0) false) fun b1_ =>
 M.new (.cells (Row.ofList [(.pointer none)]) 96 false (0, 0) false) fun b2_ =>
 M.store (Addr.mk b2_ 0 none) [(.pointer (some (Addr.mk b1_ 0 none)))]
 (M.load (.cell .ptr) 1 (Addr.mk b2_ 0 none) fun (x3_ : PA) =>
 M.callS (.one (.cell (.int .i64))) (X (.call 50 [(.pointer x3_)])) fun (r4_ : Int) =>
 M.new (.cells (Row.ofList [(.int .i64 0), (.string st0), (.string st0), (.int .i64 0), (.int .i64 0), (.slice none 0 0)]) 65 false (0, 0) false) fun b5_ =>
 f33c7 X L x b0_ b2_ r4_ b5_)
def f33 (X : XT) (L : LoopI) (x : (ByteArray) × Unit) : M Value :=
 M.new (.cells (Row.ofList [(.int .i64 0), (.string st0), (.string st0), (.int .i64 0), (.int .i64 0), (.slice none 0 0)]) 65 false (0, 0) false) fun b0_ =>
 f33c8 X L x b0_

theorem e33 (X : XT) (L : LoopI) (x : (ByteArray) × Unit) : evBody CC { call := X, loop := L } 33 (shsInj [(.cell .string)] x) = f33 X L x := by kernel_rfl

/-- hayrick/shell.written[hayrick/world.Row] -/
def f34c0 (X : XT) (L : LoopI) (x : (SL) × (Value) × Unit) (b0_ : Nat) (s2_ : (Int) × Unit) (x7_ : Int × Int × Bool × SL × Int × Int × Int × Int × SL × Unit) : M (((Int) × Unit) ⊕ ((Unit) ⊕ (((ByteArray) × (Int) × Unit) ⊕ (Unit)))) :=
 callV CC ⟨X, L⟩ x.2.1 [(.agg ⟨[(.int .i64 x7_.1), (.int .i64 x7_.2.1), (.bool x7_.2.2.1), (.slice x7_.2.2.2.1.1 x7_.2.2.2.1.2.1 x7_.2.2.2.1.2.2), (.int .i64 x7_.2.2.2.2.1), (.int .i64 x7_.2.2.2.2.2.1), (.int .i64 x7_.2.2.2.2.2.2.1), (.int .i64 x7_.2.2.2.2.2.2.2.1), (.slice x7_.2.2.2.2.2.2.2.2.1.1 x7_.2.2.2.2.2.2.2.2.1.2.1 x7_.2.2.2.2.2.2.2.2.1.2.2)]⟩)] fun w9_ => M.need (RSh.prj (.tuple [(.cell .string), (.cell .bool)]) w9_) fun (r8_ : (ByteArray) × (Bool) × Unit) =>
 M.ite (!r8_.2.1)
 (M.pure (.inr (.inr (.inl (st0, 1, ())))))
 (M.guard (Nat.ble (r8_.1.size + st16.size) 9223372036854775807)
 (M.callS (.tuple [(.cell (.int .i64)), (.cell .val)]) (X (.call 26 [(.pointer (some (Addr.mk b0_ 0 none))), (.string (r8_.1 ++ st16))])) fun (r12_ : (Int) × (Value) × Unit) =>
 M.pure (.inl ((addW .i64 s2_.1 1), ()))))
def f34c1 (X : XT) (L : LoopI) (x : (SL) × (Value) × Unit) (b0_ : Nat) (s2_ : (Int) × Unit) (x5_ : Int × Int × Bool × SL × Int × Int × Int × Int × SL × Unit) (b6_ : Nat) : M (((Int) × Unit) ⊕ ((Unit) ⊕ (((ByteArray) × (Int) × Unit) ⊕ (Unit)))) :=
 M.store (Addr.mk b6_ 0 none) [(.int .i64 x5_.1), (.int .i64 x5_.2.1), (.bool x5_.2.2.1), (.slice x5_.2.2.2.1.1 x5_.2.2.2.1.2.1 x5_.2.2.2.1.2.2), (.int .i64 x5_.2.2.2.2.1), (.int .i64 x5_.2.2.2.2.2.1), (.int .i64 x5_.2.2.2.2.2.2.1), (.int .i64 x5_.2.2.2.2.2.2.2.1), (.slice x5_.2.2.2.2.2.2.2.2.1.1 x5_.2.2.2.2.2.2.2.2.1.2.1 x5_.2.2.2.2.2.2.2.2.1.2.2)]
 (M.load (.agg [(.int .i64), (.int .i64), .bool, .slice, (.int .i64), (.int .i64), (.int .i64), (.int .i64), .slice]) 9 (Addr.mk b6_ 0 none) fun (x7_ : Int × Int × Bool × SL × Int × Int × Int × Int × SL × Unit) =>
 f34c0 X L x b0_ s2_ x7_)
def f34c2 (X : XT) (L : LoopI) (x : (SL) × (Value) × Unit) (b0_ : Nat) (s2_ : (Int) × Unit) : M (((Int) × Unit) ⊕ ((Unit) ⊕ (((ByteArray) × (Int) × Unit) ⊕ (Unit)))) :=
 M.guard (inB s2_.1 x.1.2.1)
 (M.deref x.1.1 fun a4_ =>
 M.load (.agg [(.int .i64), (.int .i64), .bool, .slice, (.int .i64), (.int .i64), (.int .i64), (.int .i64), .slice]) 9 (a4_.add ((Int.toNat s2_.1) * 9)) fun (x5_ : Int × Int × Bool × SL × Int × Int × Int × Int × SL × Unit) =>
 M.new (.cells (Row.ofList [(.int .i64 0), (.int .i64 0), (.bool false), (.slice none 0 0), (.int .i64 0), (.int .i64 0), (.int .i64 0), (.int .i64 0), (.slice none 0 0)]) 70 false (0, 0) false) fun b6_ =>
 f34c1 X L x b0_ s2_ x5_ b6_)
def f34c3 (X : XT) (L : LoopI) (x : (SL) × (Value) × Unit) (b0_ : Nat) (v1_ : Int) : M (Value) :=
 M.bind (L (σ := (Int) × Unit) (ρ := (Unit) ⊕ (((ByteArray) × (Int) × Unit) ⊕ (Unit))) (fun s2_ =>
 M.ite (ltB s2_.1 v1_)
 (f34c2 X L x b0_ s2_)
 (M.pure (.inr (.inl (()))))) (0, ())) <| M.sum (fun (j14_ : Unit) =>
 M.callS (.one (.cell (.int .i64))) (X (.call 44 [(.pointer (some (Addr.mk b0_ 0 none)))])) fun (r15_ : Int) =>
 M.ite (ltB 65536 r15_)
 (M.pure (.tuple ⟨[(.string st0), (.int .i64 3)]⟩))
 (M.callS (.one (.cell .string)) (X (.call 28 [(.pointer (some (Addr.mk b0_ 0 none)))])) fun (r17_ : ByteArray) =>
 M.pure (.tuple ⟨[(.string r17_), (.int .i64 0)]⟩))) (M.sum (fun (j18_ : (ByteArray) × (Int) × Unit) =>
 M.pure (.tuple ⟨[(.string j18_.1), (.int .i64 j18_.2.1)]⟩)) (fun _ => M.stuck))
def f34 (X : XT) (L : LoopI) (x : (SL) × (Value) × Unit) : M Value :=
 M.new (.cells (Row.ofList [(.pointer none), (.slice none 0 0)]) 51 false (0, 0) false) fun b0_ =>
 f34c3 X L x b0_ ((x.1.2.1 : Nat) : Int)

theorem e34 (X : XT) (L : LoopI) (x : (SL) × (Value) × Unit) : evBody CC { call := X, loop := L } 34 (shsInj [(.cell .slice), (.cell .val)] x) = f34 X L x := by kernel_rfl

/-- hayrick/shell.rowLine -/
def f35c0 (X : XT) (L : LoopI) (b0_ : Nat) (j3_ : (ByteArray) × Unit) (v6_ : Bool) (go10_ : ((ByteArray) × (Bool) × Unit) → M (Value)) : M (Value) :=
 M.load (.cell .bool) 1 ((Addr.mk b0_ 0 none).add 2) fun (x11_ : Bool) =>
 M.ite (!x11_)
 (go10_ (j3_.1, true, ()))
 (M.ite v6_
 (M.load (.cell (.int .i64)) 1 ((Addr.mk b0_ 0 none).add 0) fun (x13_ : Int) =>
 M.ite (eqB x13_ 15)
 (go10_ (j3_.1, true, ()))
 (M.load (.cell (.int .i64)) 1 ((Addr.mk b0_ 0 none).add 0) fun (x15_ : Int) =>
 M.load (.cell (.int .i64)) 1 ((Addr.mk b0_ 0 none).add 0) fun (x17_ : Int) => cond (veqv (.int .i64 x17_) (.int .i64 x15_)) (go10_ (j3_.1, (eqB x15_ 16), ())) M.stuck))
 (go10_ (j3_.1, false, ())))
def f35c1 (X : XT) (L : LoopI) (b0_ : Nat) (v6_ : Bool) (go8_ : ((Bool) × Unit) → M (Value)) (x33_ : Int × Int × Int × Int × Unit) : M (Value) :=
 aEql PP 67 false false (.agg ⟨[(.int .i64 x33_.1), (.int .i64 x33_.2.1), (.int .i64 x33_.2.2.1), (.int .i64 x33_.2.2.2.1)]⟩) (.agg ⟨[(.int .i64 0), (.int .i64 0), (.int .i64 0), (.int .i64 0)]⟩) fun (q34_ : Bool) =>
 M.ite q34_
 (M.ite v6_
 (M.load (.cell (.int .i64)) 1 ((Addr.mk b0_ 0 none).add 0) fun (x35_ : Int) =>
 M.ite (eqB x35_ 11)
 (go8_ (true, ()))
 (M.load (.cell .slice) 1 ((Addr.mk b0_ 0 none).add 8) fun (x37_ : SL) =>
 go8_ ((eqB ((x37_.2.1 : Nat) : Int) 0), ())))
 (M.load (.cell .slice) 1 ((Addr.mk b0_ 0 none).add 8) fun (x40_ : SL) =>
 go8_ ((eqB ((x40_.2.1 : Nat) : Int) 0), ())))
 (go8_ (false, ()))
def f35c2 (X : XT) (L : LoopI) (b0_ : Nat) (v6_ : Bool) (go8_ : ((Bool) × Unit) → M (Value)) (v24_ : Bool) : M (Value) :=
 M.ite v24_
 (M.ite v6_
 (M.load (.cell (.int .i64)) 1 ((Addr.mk b0_ 0 none).add 0) fun (x25_ : Int) =>
 M.ite (eqB x25_ 11)
 (go8_ (true, ()))
 (M.load (.cell .slice) 1 ((Addr.mk b0_ 0 none).add 8) fun (x27_ : SL) =>
 go8_ ((eqB ((x27_.2.1 : Nat) : Int) 0), ())))
 (M.load (.cell .slice) 1 ((Addr.mk b0_ 0 none).add 8) fun (x30_ : SL) =>
 go8_ ((eqB ((x30_.2.1 : Nat) : Int) 0), ())))
 (M.load (.agg [(.int .i64), (.int .i64), (.int .i64), (.int .i64)]) 4 ((Addr.mk b0_ 0 none).add 4) fun (x33_ : Int × Int × Int × Int × Unit) =>
 f35c1 X L b0_ v6_ go8_ x33_)
def f35c3 (X : XT) (L : LoopI) (b0_ : Nat) (v6_ : Bool) (go8_ : ((Bool) × Unit) → M (Value)) (x43_ : Int × Int × Int × Int × Unit) : M (Value) :=
 aEql PP 67 false false (.agg ⟨[(.int .i64 x43_.1), (.int .i64 x43_.2.1), (.int .i64 x43_.2.2.1), (.int .i64 x43_.2.2.2.1)]⟩) (.agg ⟨[(.int .i64 0), (.int .i64 0), (.int .i64 0), (.int .i64 0)]⟩) fun (q44_ : Bool) =>
 M.ite q44_
 (M.ite v6_
 (M.load (.cell (.int .i64)) 1 ((Addr.mk b0_ 0 none).add 0) fun (x45_ : Int) =>
 M.ite (eqB x45_ 11)
 (go8_ (true, ()))
 (M.load (.cell .slice) 1 ((Addr.mk b0_ 0 none).add 8) fun (x47_ : SL) =>
 go8_ ((eqB ((x47_.2.1 : Nat) : Int) 0), ())))
 (M.load (.cell .slice) 1 ((Addr.mk b0_ 0 none).add 8) fun (x50_ : SL) =>
 go8_ ((eqB ((x50_.2.1 : Nat) : Int) 0), ())))
 (go8_ (false, ()))
def f35c4 (X : XT) (L : LoopI) (b0_ : Nat) (v6_ : Bool) (go8_ : ((Bool) × Unit) → M (Value)) (x66_ : Int × Int × Int × Int × Unit) : M (Value) :=
 aEql PP 67 false false (.agg ⟨[(.int .i64 x66_.1), (.int .i64 x66_.2.1), (.int .i64 x66_.2.2.1), (.int .i64 x66_.2.2.2.1)]⟩) (.agg ⟨[(.int .i64 0), (.int .i64 0), (.int .i64 0), (.int .i64 0)]⟩) fun (q67_ : Bool) =>
 M.ite q67_
 (M.ite v6_
 (M.load (.cell (.int .i64)) 1 ((Addr.mk b0_ 0 none).add 0) fun (x68_ : Int) =>
 M.ite (eqB x68_ 11)
 (go8_ (true, ()))
 (M.load (.cell .slice) 1 ((Addr.mk b0_ 0 none).add 8) fun (x70_ : SL) =>
 go8_ ((eqB ((x70_.2.1 : Nat) : Int) 0), ())))
 (M.load (.cell .slice) 1 ((Addr.mk b0_ 0 none).add 8) fun (x73_ : SL) =>
 go8_ ((eqB ((x73_.2.1 : Nat) : Int) 0), ())))
 (go8_ (false, ()))
def f35c5 (X : XT) (L : LoopI) (b0_ : Nat) (v6_ : Bool) (go8_ : ((Bool) × Unit) → M (Value)) (v57_ : Bool) : M (Value) :=
 M.ite v57_
 (M.ite v6_
 (M.load (.cell (.int .i64)) 1 ((Addr.mk b0_ 0 none).add 0) fun (x58_ : Int) =>
 M.ite (eqB x58_ 11)
 (go8_ (true, ()))
 (M.load (.cell .slice) 1 ((Addr.mk b0_ 0 none).add 8) fun (x60_ : SL) =>
 go8_ ((eqB ((x60_.2.1 : Nat) : Int) 0), ())))
 (M.load (.cell .slice) 1 ((Addr.mk b0_ 0 none).add 8) fun (x63_ : SL) =>
 go8_ ((eqB ((x63_.2.1 : Nat) : Int) 0), ())))
 (M.load (.agg [(.int .i64), (.int .i64), (.int .i64), (.int .i64)]) 4 ((Addr.mk b0_ 0 none).add 4) fun (x66_ : Int × Int × Int × Int × Unit) =>
 f35c4 X L b0_ v6_ go8_ x66_)
def f35c6 (X : XT) (L : LoopI) (b0_ : Nat) (v6_ : Bool) (go8_ : ((Bool) × Unit) → M (Value)) (x76_ : Int × Int × Int × Int × Unit) : M (Value) :=
 aEql PP 67 false false (.agg ⟨[(.int .i64 x76_.1), (.int .i64 x76_.2.1), (.int .i64 x76_.2.2.1), (.int .i64 x76_.2.2.2.1)]⟩) (.agg ⟨[(.int .i64 0), (.int .i64 0), (.int .i64 0), (.int .i64 0)]⟩) fun (q77_ : Bool) =>
 M.ite q77_
 (M.ite v6_
 (M.load (.cell (.int .i64)) 1 ((Addr.mk b0_ 0 none).add 0) fun (x78_ : Int) =>
 M.ite (eqB x78_ 11)
 (go8_ (true, ()))
 (M.load (.cell .slice) 1 ((Addr.mk b0_ 0 none).add 8) fun (x80_ : SL) =>
 go8_ ((eqB ((x80_.2.1 : Nat) : Int) 0), ())))
 (M.load (.cell .slice) 1 ((Addr.mk b0_ 0 none).add 8) fun (x83_ : SL) =>
 go8_ ((eqB ((x83_.2.1 : Nat) : Int) 0), ())))
 (go8_ (false, ()))
def f35c7 (X : XT) (L : LoopI) (b0_ : Nat) (v6_ : Bool) (go8_ : ((Bool) × Unit) → M (Value)) (v22_ : Bool) : M (Value) :=
 M.ite v22_
 (M.ite v6_
 (M.load (.cell (.int .i64)) 1 ((Addr.mk b0_ 0 none).add 0) fun (x23_ : Int) =>
 f35c2 X L b0_ v6_ go8_ (eqB x23_ 10))
 (M.load (.agg [(.int .i64), (.int .i64), (.int .i64), (.int .i64)]) 4 ((Addr.mk b0_ 0 none).add 4) fun (x43_ : Int × Int × Int × Int × Unit) =>
 f35c3 X L b0_ v6_ go8_ x43_))
 (M.load (.cell .slice) 1 ((Addr.mk b0_ 0 none).add 3) fun (x53_ : SL) =>
 M.ite (eqB ((x53_.2.1 : Nat) : Int) 0)
 (M.ite v6_
 (M.load (.cell (.int .i64)) 1 ((Addr.mk b0_ 0 none).add 0) fun (x56_ : Int) =>
 f35c5 X L b0_ v6_ go8_ (eqB x56_ 10))
 (M.load (.agg [(.int .i64), (.int .i64), (.int .i64), (.int .i64)]) 4 ((Addr.mk b0_ 0 none).add 4) fun (x76_ : Int × Int × Int × Int × Unit) =>
 f35c6 X L b0_ v6_ go8_ x76_))
 (go8_ (false, ())))
def f35c8 (X : XT) (L : LoopI) (b0_ : Nat) (v6_ : Bool) (go8_ : ((Bool) × Unit) → M (Value)) (x99_ : Int × Int × Int × Int × Unit) : M (Value) :=
 aEql PP 67 false false (.agg ⟨[(.int .i64 x99_.1), (.int .i64 x99_.2.1), (.int .i64 x99_.2.2.1), (.int .i64 x99_.2.2.2.1)]⟩) (.agg ⟨[(.int .i64 0), (.int .i64 0), (.int .i64 0), (.int .i64 0)]⟩) fun (q100_ : Bool) =>
 M.ite q100_
 (M.ite v6_
 (M.load (.cell (.int .i64)) 1 ((Addr.mk b0_ 0 none).add 0) fun (x101_ : Int) =>
 M.ite (eqB x101_ 11)
 (go8_ (true, ()))
 (M.load (.cell .slice) 1 ((Addr.mk b0_ 0 none).add 8) fun (x103_ : SL) =>
 go8_ ((eqB ((x103_.2.1 : Nat) : Int) 0), ())))
 (M.load (.cell .slice) 1 ((Addr.mk b0_ 0 none).add 8) fun (x106_ : SL) =>
 go8_ ((eqB ((x106_.2.1 : Nat) : Int) 0), ())))
 (go8_ (false, ()))
def f35c9 (X : XT) (L : LoopI) (b0_ : Nat) (v6_ : Bool) (go8_ : ((Bool) × Unit) → M (Value)) (v90_ : Bool) : M (Value) :=
 M.ite v90_
 (M.ite v6_
 (M.load (.cell (.int .i64)) 1 ((Addr.mk b0_ 0 none).add 0) fun (x91_ : Int) =>
 M.ite (eqB x91_ 11)
 (go8_ (true, ()))
 (M.load (.cell .slice) 1 ((Addr.mk b0_ 0 none).add 8) fun (x93_ : SL) =>
 go8_ ((eqB ((x93_.2.1 : Nat) : Int) 0), ())))
 (M.load (.cell .slice) 1 ((Addr.mk b0_ 0 none).add 8) fun (x96_ : SL) =>
 go8_ ((eqB ((x96_.2.1 : Nat) : Int) 0), ())))
 (M.load (.agg [(.int .i64), (.int .i64), (.int .i64), (.int .i64)]) 4 ((Addr.mk b0_ 0 none).add 4) fun (x99_ : Int × Int × Int × Int × Unit) =>
 f35c8 X L b0_ v6_ go8_ x99_)
def f35c10 (X : XT) (L : LoopI) (b0_ : Nat) (v6_ : Bool) (go8_ : ((Bool) × Unit) → M (Value)) (x109_ : Int × Int × Int × Int × Unit) : M (Value) :=
 aEql PP 67 false false (.agg ⟨[(.int .i64 x109_.1), (.int .i64 x109_.2.1), (.int .i64 x109_.2.2.1), (.int .i64 x109_.2.2.2.1)]⟩) (.agg ⟨[(.int .i64 0), (.int .i64 0), (.int .i64 0), (.int .i64 0)]⟩) fun (q110_ : Bool) =>
 M.ite q110_
 (M.ite v6_
 (M.load (.cell (.int .i64)) 1 ((Addr.mk b0_ 0 none).add 0) fun (x111_ : Int) =>
 M.ite (eqB x111_ 11)
 (go8_ (true, ()))
 (M.load (.cell .slice) 1 ((Addr.mk b0_ 0 none).add 8) fun (x113_ : SL) =>
 go8_ ((eqB ((x113_.2.1 : Nat) : Int) 0), ())))
 (M.load (.cell .slice) 1 ((Addr.mk b0_ 0 none).add 8) fun (x116_ : SL) =>
 go8_ ((eqB ((x116_.2.1 : Nat) : Int) 0), ())))
 (go8_ (false, ()))
def f35c11 (X : XT) (L : LoopI) (b0_ : Nat) (v6_ : Bool) (go8_ : ((Bool) × Unit) → M (Value)) : M (Value) :=
 M.ite v6_
 (M.load (.cell (.int .i64)) 1 ((Addr.mk b0_ 0 none).add 0) fun (x21_ : Int) =>
 f35c7 X L b0_ v6_ go8_ (eqB x21_ 7))
 (M.load (.cell .slice) 1 ((Addr.mk b0_ 0 none).add 3) fun (x86_ : SL) =>
 M.ite (eqB ((x86_.2.1 : Nat) : Int) 0)
 (M.ite v6_
 (M.load (.cell (.int .i64)) 1 ((Addr.mk b0_ 0 none).add 0) fun (x89_ : Int) =>
 f35c9 X L b0_ v6_ go8_ (eqB x89_ 10))
 (M.load (.agg [(.int .i64), (.int .i64), (.int .i64), (.int .i64)]) 4 ((Addr.mk b0_ 0 none).add 4) fun (x109_ : Int × Int × Int × Int × Unit) =>
 f35c10 X L b0_ v6_ go8_ x109_))
 (go8_ (false, ())))
def f35c12 (X : XT) (L : LoopI) (b0_ : Nat) (j3_ : (ByteArray) × Unit) (x5_ : Int) : M (Value) :=
 let v6_ : Bool := eqB x5_ 0
 M.join (fun (j7_ : (Bool) × Unit) =>
 M.join (fun (j9_ : (ByteArray) × (Bool) × Unit) =>
 M.pure (.tuple ⟨[(.string j9_.1), (.bool j9_.2.1)]⟩)) fun go10_ =>
 M.ite j7_.1
 (f35c0 X L b0_ j3_ v6_ go10_)
 (go10_ (j3_.1, false, ()))) fun go8_ =>
 M.load (.cell (.int .i64)) 1 ((Addr.mk b0_ 0 none).add 0) fun (x18_ : Int) =>
 M.callS (.one (.cell .string)) (X (.call 46 [(.int .i64 x18_)])) fun (r19_ : ByteArray) =>
 M.ite (!(seq r19_ st0))
 (f35c11 X L b0_ v6_ go8_)
 (go8_ (false, ()))
def f35c13 (X : XT) (L : LoopI) (x136_ : Int) (x137_ : Int) (x138_ : Int) (x139_ : Int) (s140_ : (ByteArray) × (Int) × Unit) : M (((ByteArray) × (Int) × Unit) ⊕ (((ByteArray) × Unit) ⊕ (Unit))) :=
 M.guard (inB s140_.2.1 4)
 (M.need ((([(.int .i64 x136_), (.int .i64 x137_), (.int .i64 x138_), (.int .i64 x139_)])[((Int.toNat s140_.2.1) * 1)]?).bind ((.cell (.int .i64)) : Sh).prj) fun (x143_ : Int) =>
 M.callS (.one (.cell .string)) (X (.call 48 [(.int .i64 x143_)])) fun (r144_ : ByteArray) =>
 M.guard (Nat.ble (st19.size + r144_.size) 9223372036854775807)
 (let v145_ : ByteArray := st19 ++ r144_
 M.guard (Nat.ble (s140_.1.size + v145_.size) 9223372036854775807)
 (M.pure (.inl ((s140_.1 ++ v145_), (addW .i64 s140_.2.1 1), ())))))
def f35c14 (X : XT) (L : LoopI) (b0_ : Nat) (v125_ : ByteArray) (go128_ : ((ByteArray) × Unit) → M (Value)) (x136_ : Int) : M (Value) :=
 M.load (.cell (.int .i64)) 1 (((Addr.mk b0_ 0 none).add 4).add 1) fun (x137_ : Int) =>
 M.load (.cell (.int .i64)) 1 (((Addr.mk b0_ 0 none).add 4).add 2) fun (x138_ : Int) =>
 M.load (.cell (.int .i64)) 1 (((Addr.mk b0_ 0 none).add 4).add 3) fun (x139_ : Int) =>
 M.bind (L (σ := (ByteArray) × (Int) × Unit) (ρ := ((ByteArray) × Unit) ⊕ (Unit)) (fun s140_ =>
 M.ite (ltB s140_.2.1 4)
 (f35c13 X L x136_ x137_ x138_ x139_ s140_)
 (M.pure (.inr (.inl (s140_.1, ()))))) (v125_, 0, ())) <| M.sum (fun (j148_ : (ByteArray) × Unit) =>
 go128_ (j148_.1, ())) (fun _ => M.stuck)
def f35c15 (X : XT) (L : LoopI) (s152_ : (ByteArray) × (Int) × Unit) (b156_ : Nat) (x158_ : ByteArray) (r159_ : ByteArray) : M (((ByteArray) × (Int) × Unit) ⊕ (((ByteArray) × Unit) ⊕ (Unit))) :=
 M.load (.cell .string) 1 ((Addr.mk b156_ 0 none).add 1) fun (x160_ : ByteArray) => cond (veqv (.string x160_) (.string x158_)) (M.guard (Nat.ble (st19.size + r159_.size) 9223372036854775807)
 (let v161_ : ByteArray := st19 ++ r159_
 M.guard (Nat.ble (v161_.size + st19.size) 9223372036854775807)
 (let v162_ : ByteArray := v161_ ++ st19
 M.callS (.one (.cell .string)) (X (.call 9 [(.string x158_)])) fun (r163_ : ByteArray) =>
 M.guard (Nat.ble (v162_.size + r163_.size) 9223372036854775807)
 (let v164_ : ByteArray := v162_ ++ r163_
 M.guard (Nat.ble (s152_.1.size + v164_.size) 9223372036854775807)
 (M.pure (.inl ((s152_.1 ++ v164_), (addW .i64 s152_.2.1 1), ()))))))) M.stuck
def f35c16 (X : XT) (L : LoopI) (s152_ : (ByteArray) × (Int) × Unit) (a154_ : Addr) : M (((ByteArray) × (Int) × Unit) ⊕ (((ByteArray) × Unit) ⊕ (Unit))) :=
 M.load (.agg [(.int .i64), .string]) 2 (a154_.add ((Int.toNat s152_.2.1) * 2)) fun (x155_ : Int × ByteArray × Unit) =>
 M.new (.cells (Row.ofList [(.int .i64 0), (.string st0)]) 72 false (0, 0) false) fun b156_ =>
 M.store (Addr.mk b156_ 0 none) [(.int .i64 x155_.1), (.string x155_.2.1)]
 (M.load (.cell (.int .i64)) 1 ((Addr.mk b156_ 0 none).add 0) fun (x157_ : Int) =>
 M.load (.cell .string) 1 ((Addr.mk b156_ 0 none).add 1) fun (x158_ : ByteArray) =>
 M.callS (.one (.cell .string)) (X (.call 48 [(.int .i64 x157_)])) fun (r159_ : ByteArray) =>
 f35c15 X L s152_ b156_ x158_ r159_)
def f35c17 (X : XT) (L : LoopI) (b0_ : Nat) (v125_ : ByteArray) (x126_ : Int) (go128_ : ((ByteArray) × Unit) → M (Value)) (v149_ : Bool) : M (Value) :=
 M.ite v149_
 (M.load (.cell .slice) 1 ((Addr.mk b0_ 0 none).add 8) fun (x150_ : SL) =>
 M.bind (L (σ := (ByteArray) × (Int) × Unit) (ρ := ((ByteArray) × Unit) ⊕ (Unit)) (fun s152_ =>
 M.ite (ltB s152_.2.1 ((x150_.2.1 : Nat) : Int))
 (M.guard (inB s152_.2.1 x150_.2.1)
 (M.deref x150_.1 fun a154_ =>
 f35c16 X L s152_ a154_))
 (M.pure (.inr (.inl (s152_.1, ()))))) (v125_, 0, ())) <| M.sum (fun (j167_ : (ByteArray) × Unit) =>
 go128_ (j167_.1, ())) (fun _ => M.stuck))
 (M.join (fun (j168_ : (Bool) × Unit) =>
 M.ite j168_.1
 (M.load (.cell .bool) 1 ((Addr.mk b0_ 0 none).add 2) fun (x170_ : Bool) =>
 M.ite x170_
 (M.guard (Nat.ble (v125_.size + st20.size) 9223372036854775807)
 (go128_ ((v125_ ++ st20), ())))
 (M.guard (Nat.ble (v125_.size + st21.size) 9223372036854775807)
 (go128_ ((v125_ ++ st21), ()))))
 (go128_ (v125_, ()))) fun go169_ =>
 M.ite (eqB x126_ 15)
 (go169_ (true, ()))
 (go169_ ((eqB x126_ 16), ())))
def f35c18 (X : XT) (L : LoopI) (b0_ : Nat) (v125_ : ByteArray) (x126_ : Int) (go128_ : ((ByteArray) × Unit) → M (Value)) (v129_ : Bool) : M (Value) :=
 M.ite v129_
 (M.load (.cell .slice) 1 ((Addr.mk b0_ 0 none).add 3) fun (x130_ : SL) =>
 M.toStr x130_.1 x130_.2.1 fun s131_ =>
 M.callS (.one (.cell .string)) (X (.call 9 [(.string s131_)])) fun (r132_ : ByteArray) =>
 M.guard (Nat.ble (st19.size + r132_.size) 9223372036854775807)
 (let v133_ : ByteArray := st19 ++ r132_
 M.guard (Nat.ble (v125_.size + v133_.size) 9223372036854775807)
 (go128_ ((v125_ ++ v133_), ()))))
 (M.ite (eqB x126_ 10)
 (M.load (.cell (.int .i64)) 1 (((Addr.mk b0_ 0 none).add 4).add 0) fun (x136_ : Int) =>
 f35c14 X L b0_ v125_ go128_ x136_)
 (f35c17 X L b0_ v125_ x126_ go128_ (eqB x126_ 11)))
def f35c19 (X : XT) (L : LoopI) (b0_ : Nat) (r2_ : ByteArray) (go4_ : ((ByteArray) × Unit) → M (Value)) (v120_ : Bool) : M (Value) :=
 M.ite v120_
 (M.load (.cell (.int .i64)) 1 ((Addr.mk b0_ 0 none).add 1) fun (x121_ : Int) =>
 M.callS (.one (.cell .string)) (X (.call 48 [(.int .i64 x121_)])) fun (r122_ : ByteArray) =>
 M.guard (Nat.ble (st17.size + r122_.size) 9223372036854775807)
 (let v123_ : ByteArray := st17 ++ r122_
 M.guard (Nat.ble (r2_.size + v123_.size) 9223372036854775807)
 (go4_ ((r2_ ++ v123_), ()))))
 (M.guard (Nat.ble (r2_.size + st18.size) 9223372036854775807)
 (M.load (.cell (.int .i64)) 1 ((Addr.mk b0_ 0 none).add 0) fun (x126_ : Int) =>
 M.join (fun (j127_ : (ByteArray) × Unit) =>
 go4_ (j127_.1, ())) fun go128_ =>
 f35c18 X L b0_ (r2_ ++ st18) x126_ go128_ (eqB x126_ 7)))
def f35c20 (X : XT) (L : LoopI) (x : (Int × Int × Bool × SL × Int × Int × Int × Int × SL × Unit) × Unit) : M (Value) :=
 M.new (.cells (Row.ofList [(.int .i64 x.1.1), (.int .i64 x.1.2.1), (.bool x.1.2.2.1), (.slice x.1.2.2.2.1.1 x.1.2.2.2.1.2.1 x.1.2.2.2.1.2.2), (.int .i64 x.1.2.2.2.2.1), (.int .i64 x.1.2.2.2.2.2.1), (.int .i64 x.1.2.2.2.2.2.2.1), (.int .i64 x.1.2.2.2.2.2.2.2.1), (.slice x.1.2.2.2.2.2.2.2.2.1.1 x.1.2.2.2.2.2.2.2.2.1.2.1 x.1.2.2.2.2.2.2.2.2.1.2.2)]) 70 false (0, 0) false) fun b0_ =>
 M.load (.cell (.int .i64)) 1 ((Addr.mk b0_ 0 none).add 0) fun (x1_ : Int) =>
 M.callS (.one (.cell .string)) (X (.call 46 [(.int .i64 x1_)])) fun (r2_ : ByteArray) =>
 M.join (fun (j3_ : (ByteArray) × Unit) =>
 M.load (.cell (.int .i64)) 1 ((Addr.mk b0_ 0 none).add 1) fun (x5_ : Int) =>
 f35c12 X L b0_ j3_ x5_) fun go4_ =>
 M.load (.cell (.int .i64)) 1 ((Addr.mk b0_ 0 none).add 1) fun (x119_ : Int) =>
 f35c19 X L b0_ r2_ go4_ (!(eqB x119_ 0))
def f35 (X : XT) (L : LoopI) (x : (Int × Int × Bool × SL × Int × Int × Int × Int × SL × Unit) × Unit) : M Value :=
 f35c20 X L x

theorem e35 (X : XT) (L : LoopI) (x : (Int × Int × Bool × SL × Int × Int × Int × Int × SL × Unit) × Unit) : evBody CC { call := X, loop := L } 35 (shsInj [(.agg [(.int .i64), (.int .i64), .bool, .slice, (.int .i64), (.int .i64), (.int .i64), (.int .i64), .slice])] x) = f35 X L x := by kernel_rfl

/-- hayrick/shell.parsed[hayrick/world.Row] -/
def f36c0 (X : XT) (L : LoopI) (s2_ : (ByteArray) × (SL) × (Int) × Unit) (r4_ : (ByteArray) × (ByteArray) × (Bool) × Unit) (x10_ : Int × Int × Bool × SL × Int × Int × Int × Int × SL × Unit) : M (((ByteArray) × (SL) × (Int) × Unit) ⊕ (((SL) × Unit) ⊕ (((SL) × (Int) × (Int) × Unit) ⊕ (Unit)))) :=
 M.new (.cells (Row.ofList [(.int .i64 x10_.1), (.int .i64 x10_.2.1), (.bool x10_.2.2.1), (.slice x10_.2.2.2.1.1 x10_.2.2.2.1.2.1 x10_.2.2.2.1.2.2), (.int .i64 x10_.2.2.2.2.1), (.int .i64 x10_.2.2.2.2.2.1), (.int .i64 x10_.2.2.2.2.2.2.1), (.int .i64 x10_.2.2.2.2.2.2.2.1), (.slice x10_.2.2.2.2.2.2.2.2.1.1 x10_.2.2.2.2.2.2.2.2.1.2.1 x10_.2.2.2.2.2.2.2.2.1.2.2)]) 70 false (0, 0) false) fun b11_ =>
 M.append 70 9 104 s2_.2.1.1 s2_.2.1.2.1 s2_.2.1.2.2 (.slice (some (Addr.mk b11_ 0 none)) 1 1) fun a12_ n13_ c14_ =>
 M.pure (.inl (r4_.2.1, (a12_, n13_, c14_), (addW .i64 s2_.2.2.1 1), ()))
def f36c1 (X : XT) (L : LoopI) (s2_ : (ByteArray) × (SL) × (Int) × Unit) (r4_ : (ByteArray) × (ByteArray) × (Bool) × Unit) (r5_ : (Int × Int × Bool × SL × Int × Int × Int × Int × SL × Unit) × (Bool) × Unit) (b7_ : Nat) : M (((ByteArray) × (SL) × (Int) × Unit) ⊕ (((SL) × Unit) ⊕ (((SL) × (Int) × (Int) × Unit) ⊕ (Unit)))) :=
 M.store (Addr.mk b7_ 0 none) [(.int .i64 r5_.1.1), (.int .i64 r5_.1.2.1), (.bool r5_.1.2.2.1), (.slice r5_.1.2.2.2.1.1 r5_.1.2.2.2.1.2.1 r5_.1.2.2.2.1.2.2), (.int .i64 r5_.1.2.2.2.2.1), (.int .i64 r5_.1.2.2.2.2.2.1), (.int .i64 r5_.1.2.2.2.2.2.2.1), (.int .i64 r5_.1.2.2.2.2.2.2.2.1), (.slice r5_.1.2.2.2.2.2.2.2.2.1.1 r5_.1.2.2.2.2.2.2.2.2.1.2.1 r5_.1.2.2.2.2.2.2.2.2.1.2.2)]
 (M.join (fun (j8_ : (Bool) × Unit) =>
 M.ite j8_.1
 (M.pure (.inr (.inr (.inl ((none, 0, 0), s2_.2.2.1, 5, ())))))
 (M.load (.agg [(.int .i64), (.int .i64), .bool, .slice, (.int .i64), (.int .i64), (.int .i64), (.int .i64), .slice]) 9 (Addr.mk b7_ 0 none) fun (x10_ : Int × Int × Bool × SL × Int × Int × Int × Int × SL × Unit) =>
 f36c0 X L s2_ r4_ x10_)) fun go9_ =>
 M.ite (!r4_.2.2.1)
 (go9_ (true, ()))
 (go9_ ((!r5_.2.1), ())))
def f36c2 (X : XT) (L : LoopI) (x : (ByteArray) × (Value) × Unit) (s2_ : (ByteArray) × (SL) × (Int) × Unit) (r4_ : (ByteArray) × (ByteArray) × (Bool) × Unit) : M (((ByteArray) × (SL) × (Int) × Unit) ⊕ (((SL) × Unit) ⊕ (((SL) × (Int) × (Int) × Unit) ⊕ (Unit)))) :=
 callV CC ⟨X, L⟩ x.2.1 [(.string r4_.1)] fun w6_ => M.need (RSh.prj (.tuple [(.agg [(.int .i64), (.int .i64), .bool, .slice, (.int .i64), (.int .i64), (.int .i64), (.int .i64), .slice]), (.cell .bool)]) w6_) fun (r5_ : (Int × Int × Bool × SL × Int × Int × Int × Int × SL × Unit) × (Bool) × Unit) =>
 M.new (.cells (Row.ofList [(.int .i64 0), (.int .i64 0), (.bool false), (.slice none 0 0), (.int .i64 0), (.int .i64 0), (.int .i64 0), (.int .i64 0), (.slice none 0 0)]) 70 false (0, 0) false) fun b7_ =>
 f36c1 X L s2_ r4_ r5_ b7_
def f36c3 (X : XT) (L : LoopI) (x : (ByteArray) × (Value) × Unit) : M (Value) :=
 M.bind (L (σ := (ByteArray) × (SL) × (Int) × Unit) (ρ := ((SL) × Unit) ⊕ (((SL) × (Int) × (Int) × Unit) ⊕ (Unit))) (fun s2_ =>
 M.ite (!(seq s2_.1 st0))
 (M.callS (.tuple [(.cell .string), (.cell .string), (.cell .bool)]) (X (.call 49 [(.string s2_.1), (.string st16)])) fun (r4_ : (ByteArray) × (ByteArray) × (Bool) × Unit) =>
 f36c2 X L x s2_ r4_)
 (M.pure (.inr (.inl (s2_.2.1, ()))))) (x.1, (none, 0, 0), 1, ())) <| M.sum (fun (j18_ : (SL) × Unit) =>
 M.pure (.tuple ⟨[(.slice j18_.1.1 j18_.1.2.1 j18_.1.2.2), (.int .i64 0), (.int .i64 0)]⟩)) (M.sum (fun (j19_ : (SL) × (Int) × (Int) × Unit) =>
 M.pure (.tuple ⟨[(.slice j19_.1.1 j19_.1.2.1 j19_.1.2.2), (.int .i64 j19_.2.1), (.int .i64 j19_.2.2.1)]⟩)) (fun _ => M.stuck))
def f36 (X : XT) (L : LoopI) (x : (ByteArray) × (Value) × Unit) : M Value :=
 M.ite (ltB 65536 ((x.1.size : Nat) : Int))
 (M.pure (.tuple ⟨[(.slice none 0 0), (.int .i64 0), (.int .i64 3)]⟩))
 (f36c3 X L x)

theorem e36 (X : XT) (L : LoopI) (x : (ByteArray) × (Value) × Unit) : evBody CC { call := X, loop := L } 36 (shsInj [(.cell .string), (.cell .val)] x) = f36 X L x := by kernel_rfl

/-- hayrick/shell.row -/
def f37c0 (X : XT) (L : LoopI) (b0_ : Nat) (j9_ : (Bool) × Unit) : M (Value) :=
 M.load (.agg [(.int .i64), (.int .i64), .bool, .slice, (.int .i64), (.int .i64), (.int .i64), (.int .i64), .slice]) 9 (Addr.mk b0_ 0 none) fun (x11_ : Int × Int × Bool × SL × Int × Int × Int × Int × SL × Unit) =>
 M.pure (.tuple ⟨[(.agg ⟨[(.int .i64 x11_.1), (.int .i64 x11_.2.1), (.bool x11_.2.2.1), (.slice x11_.2.2.2.1.1 x11_.2.2.2.1.2.1 x11_.2.2.2.1.2.2), (.int .i64 x11_.2.2.2.2.1), (.int .i64 x11_.2.2.2.2.2.1), (.int .i64 x11_.2.2.2.2.2.2.1), (.int .i64 x11_.2.2.2.2.2.2.2.1), (.slice x11_.2.2.2.2.2.2.2.2.1.1 x11_.2.2.2.2.2.2.2.2.1.2.1 x11_.2.2.2.2.2.2.2.2.1.2.2)]⟩), (.bool j9_.1)]⟩)
def f37c1 (X : XT) (L : LoopI) (x : (ByteArray) × Unit) (b0_ : Nat) (r8_ : (ByteArray) × (Bool) × Unit) (go10_ : ((Bool) × Unit) → M (Value)) (x12_ : Int × Int × Bool × SL × Int × Int × Int × Int × SL × Unit) : M (Value) :=
 M.ite r8_.2.1
 (M.store (Addr.mk b0_ 0 none) [(.int .i64 x12_.1), (.int .i64 x12_.2.1), (.bool x12_.2.2.1), (.slice x12_.2.2.2.1.1 x12_.2.2.2.1.2.1 x12_.2.2.2.1.2.2), (.int .i64 x12_.2.2.2.2.1), (.int .i64 x12_.2.2.2.2.2.1), (.int .i64 x12_.2.2.2.2.2.2.1), (.int .i64 x12_.2.2.2.2.2.2.2.1), (.slice x12_.2.2.2.2.2.2.2.2.1.1 x12_.2.2.2.2.2.2.2.2.1.2.1 x12_.2.2.2.2.2.2.2.2.1.2.2)]
 (go10_ ((seq r8_.1 x.1), ())))
 (M.store (Addr.mk b0_ 0 none) [(.int .i64 x12_.1), (.int .i64 x12_.2.1), (.bool x12_.2.2.1), (.slice x12_.2.2.2.1.1 x12_.2.2.2.1.2.1 x12_.2.2.2.1.2.2), (.int .i64 x12_.2.2.2.2.1), (.int .i64 x12_.2.2.2.2.2.1), (.int .i64 x12_.2.2.2.2.2.2.1), (.int .i64 x12_.2.2.2.2.2.2.2.1), (.slice x12_.2.2.2.2.2.2.2.2.1.1 x12_.2.2.2.2.2.2.2.2.1.2.1 x12_.2.2.2.2.2.2.2.2.1.2.2)]
 (go10_ (false, ())))
def f37c2 (X : XT) (L : LoopI) (x : (ByteArray) × Unit) (b0_ : Nat) (b1_ : Nat) (r8_ : (ByteArray) × (Bool) × Unit) (go10_ : ((Bool) × Unit) → M (Value)) (x12_ : Int × Int × Bool × SL × Int × Int × Int × Int × SL × Unit) : M (Value) :=
 M.load (.cell .string) 1 ((Addr.mk b1_ 0 none).add 0) fun (x15_ : ByteArray) =>
 M.ite (seq x15_ st0)
 (f37c1 X L x b0_ r8_ go10_ x12_)
 (M.store (Addr.mk b0_ 0 none) [(.int .i64 x12_.1), (.int .i64 x12_.2.1), (.bool x12_.2.2.1), (.slice x12_.2.2.2.1.1 x12_.2.2.2.1.2.1 x12_.2.2.2.1.2.2), (.int .i64 x12_.2.2.2.2.1), (.int .i64 x12_.2.2.2.2.2.1), (.int .i64 x12_.2.2.2.2.2.2.1), (.int .i64 x12_.2.2.2.2.2.2.2.1), (.slice x12_.2.2.2.2.2.2.2.2.1.1 x12_.2.2.2.2.2.2.2.2.1.2.1 x12_.2.2.2.2.2.2.2.2.1.2.2)]
 (go10_ (false, ())))
def f37c3 (X : XT) (L : LoopI) (x : (ByteArray) × Unit) (b0_ : Nat) (b1_ : Nat) (r8_ : (ByteArray) × (Bool) × Unit) (go10_ : ((Bool) × Unit) → M (Value)) (x12_ : Int × Int × Bool × SL × Int × Int × Int × Int × SL × Unit) : M (Value) :=
 M.load (.cell .bool) 1 ((Addr.mk b1_ 0 none).add 1) fun (x13_ : Bool) =>
 M.ite (!x13_)
 (f37c2 X L x b0_ b1_ r8_ go10_ x12_)
 (M.store (Addr.mk b0_ 0 none) [(.int .i64 x12_.1), (.int .i64 x12_.2.1), (.bool x12_.2.2.1), (.slice x12_.2.2.2.1.1 x12_.2.2.2.1.2.1 x12_.2.2.2.1.2.2), (.int .i64 x12_.2.2.2.2.1), (.int .i64 x12_.2.2.2.2.2.1), (.int .i64 x12_.2.2.2.2.2.2.1), (.int .i64 x12_.2.2.2.2.2.2.2.1), (.slice x12_.2.2.2.2.2.2.2.2.1.1 x12_.2.2.2.2.2.2.2.2.1.2.1 x12_.2.2.2.2.2.2.2.2.1.2.2)]
 (go10_ (false, ())))
def f37c4 (X : XT) (L : LoopI) (x : (ByteArray) × Unit) (b0_ : Nat) (b1_ : Nat) (b3_ : Nat) (x7_ : Int × Int × Bool × SL × Int × Int × Int × Int × SL × Unit) : M (Value) :=
 M.callS (.tuple [(.cell .string), (.cell .bool)]) (X (.call 35 [(.agg ⟨[(.int .i64 x7_.1), (.int .i64 x7_.2.1), (.bool x7_.2.2.1), (.slice x7_.2.2.2.1.1 x7_.2.2.2.1.2.1 x7_.2.2.2.1.2.2), (.int .i64 x7_.2.2.2.2.1), (.int .i64 x7_.2.2.2.2.2.1), (.int .i64 x7_.2.2.2.2.2.2.1), (.int .i64 x7_.2.2.2.2.2.2.2.1), (.slice x7_.2.2.2.2.2.2.2.2.1.1 x7_.2.2.2.2.2.2.2.2.1.2.1 x7_.2.2.2.2.2.2.2.2.1.2.2)]⟩)])) fun (r8_ : (ByteArray) × (Bool) × Unit) =>
 M.join (fun (j9_ : (Bool) × Unit) =>
 f37c0 X L b0_ j9_) fun go10_ =>
 M.load (.agg [(.int .i64), (.int .i64), .bool, .slice, (.int .i64), (.int .i64), (.int .i64), (.int .i64), .slice]) 9 (Addr.mk b3_ 0 none) fun (x12_ : Int × Int × Bool × SL × Int × Int × Int × Int × SL × Unit) =>
 f37c3 X L x b0_ b1_ r8_ go10_ x12_
def f37c5 (X : XT) (L : LoopI) (b0_ : Nat) : M (Value) :=
 M.load (.agg [(.int .i64), (.int .i64), .bool, .slice, (.int .i64), (.int .i64), (.int .i64), (.int .i64), .slice]) 9 (Addr.mk b0_ 0 none) fun (x22_ : Int × Int × Bool × SL × Int × Int × Int × Int × SL × Unit) =>
 M.pure (.tuple ⟨[(.agg ⟨[(.int .i64 x22_.1), (.int .i64 x22_.2.1), (.bool x22_.2.2.1), (.slice x22_.2.2.2.1.1 x22_.2.2.2.1.2.1 x22_.2.2.2.1.2.2), (.int .i64 x22_.2.2.2.2.1), (.int .i64 x22_.2.2.2.2.2.1), (.int .i64 x22_.2.2.2.2.2.2.1), (.int .i64 x22_.2.2.2.2.2.2.2.1), (.slice x22_.2.2.2.2.2.2.2.2.1.1 x22_.2.2.2.2.2.2.2.2.1.2.1 x22_.2.2.2.2.2.2.2.2.1.2.2)]⟩), (.bool false)]⟩)
def f37c6 (X : XT) (L : LoopI) (b0_ : Nat) (b3_ : Nat) : M (Value) :=
 M.load (.agg [(.int .i64), (.int .i64), .bool, .slice, (.int .i64), (.int .i64), (.int .i64), (.int .i64), .slice]) 9 (Addr.mk b3_ 0 none) fun (x21_ : Int × Int × Bool × SL × Int × Int × Int × Int × SL × Unit) =>
 M.store (Addr.mk b0_ 0 none) [(.int .i64 x21_.1), (.int .i64 x21_.2.1), (.bool x21_.2.2.1), (.slice x21_.2.2.2.1.1 x21_.2.2.2.1.2.1 x21_.2.2.2.1.2.2), (.int .i64 x21_.2.2.2.2.1), (.int .i64 x21_.2.2.2.2.2.1), (.int .i64 x21_.2.2.2.2.2.2.1), (.int .i64 x21_.2.2.2.2.2.2.2.1), (.slice x21_.2.2.2.2.2.2.2.2.1.1 x21_.2.2.2.2.2.2.2.2.1.2.1 x21_.2.2.2.2.2.2.2.2.1.2.2)]
 (f37c5 X L b0_)
def f37c7 (X : XT) (L : LoopI) (b1_ : Nat) (b3_ : Nat) (go6_ : (Unit) → M (Value)) (r31_ : Int) : M (Value) :=
 M.callS (.one (.cell (.int .i64))) (X (.call 56 [(.pointer (some (Addr.mk b1_ 0 none)))])) fun (r32_ : Int) =>
 M.callS (.one (.cell (.int .i64))) (X (.call 56 [(.pointer (some (Addr.mk b1_ 0 none)))])) fun (r33_ : Int) =>
 M.callS (.one (.cell (.int .i64))) (X (.call 56 [(.pointer (some (Addr.mk b1_ 0 none)))])) fun (r34_ : Int) =>
 M.store (((Addr.mk b3_ 0 none).add 4).add 0) [(.int .i64 r31_)]
 (M.store (((Addr.mk b3_ 0 none).add 4).add 1) [(.int .i64 r32_)]
 (M.store (((Addr.mk b3_ 0 none).add 4).add 2) [(.int .i64 r33_)]
 (M.store (((Addr.mk b3_ 0 none).add 4).add 3) [(.int .i64 r34_)]
 (go6_ (())))))
def f37c8 (X : XT) (L : LoopI) (b1_ : Nat) (b3_ : Nat) (r40_ : Int) (x41_ : SL) : M ((Unit) ⊕ ((Unit) ⊕ (Unit))) :=
 M.callS (.one (.cell .string)) (X (.call 53 [(.pointer (some (Addr.mk b1_ 0 none)))])) fun (r42_ : ByteArray) =>
 M.load (.cell .slice) 1 ((Addr.mk b3_ 0 none).add 8) fun (x43_ : SL) => cond (veqv (.slice x43_.1 x43_.2.1 x43_.2.2) (.slice x41_.1 x41_.2.1 x41_.2.2)) (M.new (.cells (Row.ofList [(.int .i64 r40_), (.string r42_)]) 72 false (0, 0) false) fun b44_ =>
 M.append 72 2 24 x41_.1 x41_.2.1 x41_.2.2 (.slice (some (Addr.mk b44_ 0 none)) 1 1) fun a45_ n46_ c47_ =>
 M.store ((Addr.mk b3_ 0 none).add 8) [(.slice a45_ n46_ c47_)]
 (M.pure (.inl (())))) M.stuck
def f37c9 (X : XT) (L : LoopI) (b1_ : Nat) (b3_ : Nat) : M ((Unit) ⊕ ((Unit) ⊕ (Unit))) :=
 M.join (fun (j38_ : (Bool) × Unit) =>
 M.ite j38_.1
 (M.callS (.one (.cell (.int .i64))) (X (.call 56 [(.pointer (some (Addr.mk b1_ 0 none)))])) fun (r40_ : Int) =>
 M.load (.cell .slice) 1 ((Addr.mk b3_ 0 none).add 8) fun (x41_ : SL) =>
 f37c8 X L b1_ b3_ r40_ x41_)
 (M.pure (.inr (.inl (()))))) fun go39_ =>
 M.load (.cell .string) 1 ((Addr.mk b1_ 0 none).add 0) fun (x48_ : ByteArray) =>
 M.ite (!(seq x48_ st0))
 (M.load (.cell .bool) 1 ((Addr.mk b1_ 0 none).add 1) fun (x50_ : Bool) =>
 go39_ ((!x50_), ()))
 (go39_ (false, ()))
def f37c10 (X : XT) (L : LoopI) (b1_ : Nat) (b3_ : Nat) (go6_ : (Unit) → M (Value)) (v36_ : Bool) : M (Value) :=
 M.ite v36_
 (M.bind (L (σ := Unit) (ρ := (Unit) ⊕ (Unit)) (fun s37_ =>
 f37c9 X L b1_ b3_) (())) <| M.sum (fun (j52_ : Unit) =>
 go6_ (())) (fun _ => M.stuck))
 (M.join (fun (j53_ : (Bool) × Unit) =>
 M.ite j53_.1
 (M.callS (.one (.cell .string)) (X (.call 59 [(.pointer (some (Addr.mk b1_ 0 none)))])) fun (r55_ : ByteArray) =>
 M.store ((Addr.mk b3_ 0 none).add 2) [(.bool (seq r55_ st24))]
 (go6_ (())))
 (go6_ (()))) fun go54_ =>
 M.load (.cell (.int .i64)) 1 ((Addr.mk b3_ 0 none).add 0) fun (x57_ : Int) =>
 M.ite (eqB x57_ 15)
 (go54_ (true, ()))
 (M.load (.cell (.int .i64)) 1 ((Addr.mk b3_ 0 none).add 0) fun (x59_ : Int) =>
 go54_ ((eqB x59_ 16), ())))
def f37c11 (X : XT) (L : LoopI) (b1_ : Nat) (b3_ : Nat) (go6_ : (Unit) → M (Value)) (v24_ : Bool) : M (Value) :=
 M.ite v24_
 (M.callS (.one (.cell .string)) (X (.call 53 [(.pointer (some (Addr.mk b1_ 0 none)))])) fun (r25_ : ByteArray) =>
 M.ofStr 5 r25_ fun a26_ n27_ c28_ =>
 M.store ((Addr.mk b3_ 0 none).add 3) [(.slice a26_ n27_ c28_)]
 (go6_ (())))
 (M.load (.cell (.int .i64)) 1 ((Addr.mk b3_ 0 none).add 0) fun (x29_ : Int) =>
 M.ite (eqB x29_ 10)
 (M.callS (.one (.cell (.int .i64))) (X (.call 56 [(.pointer (some (Addr.mk b1_ 0 none)))])) fun (r31_ : Int) =>
 f37c7 X L b1_ b3_ go6_ r31_)
 (M.load (.cell (.int .i64)) 1 ((Addr.mk b3_ 0 none).add 0) fun (x35_ : Int) =>
 f37c10 X L b1_ b3_ go6_ (eqB x35_ 11)))
def f37c12 (X : XT) (L : LoopI) (x : (ByteArray) × Unit) (b0_ : Nat) (b1_ : Nat) (b3_ : Nat) (r4_ : ByteArray) : M (Value) :=
 M.join (fun (j5_ : Unit) =>
 M.load (.agg [(.int .i64), (.int .i64), .bool, .slice, (.int .i64), (.int .i64), (.int .i64), (.int .i64), .slice]) 9 (Addr.mk b3_ 0 none) fun (x7_ : Int × Int × Bool × SL × Int × Int × Int × Int × SL × Unit) =>
 f37c4 X L x b0_ b1_ b3_ x7_) fun go6_ =>
 M.ite (seq r4_ st22)
 (M.callS (.one (.cell (.int .i64))) (X (.call 56 [(.pointer (some (Addr.mk b1_ 0 none)))])) fun (r19_ : Int) =>
 M.store ((Addr.mk b3_ 0 none).add 1) [(.int .i64 r19_)]
 (go6_ (())))
 (M.ite (!(seq r4_ st23))
 (f37c6 X L b0_ b3_)
 (M.load (.cell (.int .i64)) 1 ((Addr.mk b3_ 0 none).add 0) fun (x23_ : Int) =>
 f37c11 X L b1_ b3_ go6_ (eqB x23_ 7)))
def f37c13 (X : XT) (L : LoopI) (x : (ByteArray) × Unit) (b0_ : Nat) (b1_ : Nat) (r2_ : Int) : M (Value) :=
 M.new (.cells (Row.ofList [(.int .i64 0), (.int .i64 0), (.bool false), (.slice none 0 0), (.int .i64 0), (.int .i64 0), (.int .i64 0), (.int .i64 0), (.slice none 0 0)]) 70 false (0, 0) false) fun b3_ =>
 M.store (Addr.mk b3_ 0 none) [(.int .i64 r2_), (.int .i64 0), (.bool false), (.slice none 0 0), (.int .i64 0), (.int .i64 0), (.int .i64 0), (.int .i64 0), (.slice none 0 0)]
 (M.callS (.one (.cell .string)) (X (.call 59 [(.pointer (some (Addr.mk b1_ 0 none)))])) fun (r4_ : ByteArray) =>
 f37c12 X L x b0_ b1_ b3_ r4_)
def f37 (X : XT) (L : LoopI) (x : (ByteArray) × Unit) : M Value :=
 M.new (.cells (Row.ofList [(.int .i64 0), (.int .i64 0), (.bool false), (.slice none 0 0), (.int .i64 0), (.int .i64 0), (.int .i64 0), (.int .i64 0), (.slice none 0 0)]) 70 false (0, 0) false) fun b0_ =>
 M.new (.cells (Row.ofList [(.string x.1), (.bool false)]) 98 false (0, 0) false) fun b1_ =>
 M.callS (.one (.cell (.int .i64))) (X (.call 50 [(.pointer (some (Addr.mk b1_ 0 none)))])) fun (r2_ : Int) =>
 f37c13 X L x b0_ b1_ r2_

theorem e37 (X : XT) (L : LoopI) (x : (ByteArray) × Unit) : evBody CC { call := X, loop := L } 37 (shsInj [(.cell .string)] x) = f37 X L x := by kernel_rfl

/-- hayrick/hayrickref12.Same -/
def f38c0 (X : XT) (L : LoopI) (x : (SL) × (SL) × Unit) (s3_ : (Int) × Unit) (a6_ : Addr) : M (((Int) × Unit) ⊕ ((Unit) ⊕ (((Bool) × Unit) ⊕ (Unit)))) :=
 M.load (.agg [(.int .i64), .string]) 2 (a6_.add ((Int.toNat s3_.1) * 2)) fun (x7_ : Int × ByteArray × Unit) =>
 M.guard (inB s3_.1 x.2.1.2.1)
 (M.deref x.2.1.1 fun a8_ =>
 M.load (.agg [(.int .i64), .string]) 2 (a8_.add ((Int.toNat s3_.1) * 2)) fun (x9_ : Int × ByteArray × Unit) =>
 aEql PP 72 false false (.agg ⟨[(.int .i64 x7_.1), (.string x7_.2.1)]⟩) (.agg ⟨[(.int .i64 x9_.1), (.string x9_.2.1)]⟩) fun (q10_ : Bool) =>
 M.ite (!q10_)
 (M.pure (.inr (.inr (.inl (false, ())))))
 (M.pure (.inl ((addW .i64 s3_.1 1), ()))))
def f38 (X : XT) (L : LoopI) (x : (SL) × (SL) × Unit) : M Value :=
 M.ite (!(eqB ((x.1.2.1 : Nat) : Int) ((x.2.1.2.1 : Nat) : Int)))
 (M.pure (.bool false))
 (M.bind (L (σ := (Int) × Unit) (ρ := (Unit) ⊕ (((Bool) × Unit) ⊕ (Unit))) (fun s3_ =>
 M.ite (ltB s3_.1 ((x.1.2.1 : Nat) : Int))
 (M.guard (inB s3_.1 x.1.2.1)
 (M.deref x.1.1 fun a6_ =>
 f38c0 X L x s3_ a6_))
 (M.pure (.inr (.inl (()))))) (0, ())) <| M.sum (fun (j13_ : Unit) =>
 M.pure (.bool true)) (M.sum (fun (j14_ : (Bool) × Unit) =>
 M.pure (.bool j14_.1)) (fun _ => M.stuck)))

theorem e38 (X : XT) (L : LoopI) (x : (SL) × (SL) × Unit) : evBody CC { call := X, loop := L } 38 (shsInj [(.cell .slice), (.cell .slice)] x) = f38 X L x := by kernel_rfl

/-- internal/stringslite.HasPrefix -/
def f39 (X : XT) (L : LoopI) (x : (ByteArray) × (ByteArray) × Unit) : M Value :=
 M.join (fun (j0_ : (Bool) × Unit) =>
 M.pure (.bool j0_.1)) fun go1_ =>
 M.ite (leB ((x.2.1.size : Nat) : Int) ((x.1.size : Nat) : Int))
 (let v5_ : Int := ((x.2.1.size : Nat) : Int)
 M.guard (upB v5_ x.1.size)
 (go1_ ((seq (x.1.extract 0 (Int.toNat v5_)) x.2.1), ())))
 (go1_ (false, ()))

theorem e39 (X : XT) (L : LoopI) (x : (ByteArray) × (ByteArray) × Unit) : evBody CC { call := X, loop := L } 39 (shsInj [(.cell .string), (.cell .string)] x) = f39 X L x := by kernel_rfl

/-- internal/stringslite.IndexByte -/
def f40 (X : XT) (L : LoopI) (x : (ByteArray) × (Int) × Unit) : M Value :=
 M.pure (.int .i64 (Lib.indexByte x.1.data.toList (Int.toNat x.2.1).toUInt8))

theorem e40 (X : XT) (L : LoopI) (x : (ByteArray) × (Int) × Unit) : evBody CC { call := X, loop := L } 40 (shsInj [(.cell .string), (.cell (.int .u8))] x) = f40 X L x := by kernel_rfl

/-- (*strings.Builder).copyCheck -/
def f41 (X : XT) (L : LoopI) (x : (PA) × Unit) : M Value :=
 M.deref x.1 fun a0_ =>
 M.load (.cell .ptr) 1 (a0_.add 0) fun (x1_ : PA) =>
 M.eqPtr x1_ none fun (q2_ : Bool) =>
 M.ite q2_
 (aConvert PP 49 102 (.pointer x.1) fun (w3_ : Value) =>
 aConvert PP 102 49 w3_ fun (w4_ : Value) =>
 M.deref x.1 fun a5_ =>
 M.store (a5_.add 0) [w4_]
 (M.pure (.tuple ⟨[]⟩)))
 (M.deref x.1 fun a6_ =>
 M.load (.cell .ptr) 1 (a6_.add 0) fun (x7_ : PA) =>
 M.eqPtr x7_ x.1 fun (q8_ : Bool) =>
 M.ite (!q8_)
 (M.stuck)
 (M.pure (.tuple ⟨[]⟩)))

theorem e41 (X : XT) (L : LoopI) (x : (PA) × Unit) : evBody CC { call := X, loop := L } 41 (shsInj [(.cell .ptr)] x) = f41 X L x := by kernel_rfl

end
end Go.Proofs.YtlcigkdflbfdgaaDoor.sb
