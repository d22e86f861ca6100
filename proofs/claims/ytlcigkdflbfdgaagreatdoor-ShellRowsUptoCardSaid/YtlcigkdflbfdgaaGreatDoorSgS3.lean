/-
 What the functions come to, part 3: each text, and that the reading gives it.
-/
import Derived.Test.YtlcigkdflbfdgaaGreatDoorSgH
import Derived.KernelRfl
set_option linter.unusedVariables false
namespace Go.Proofs.YtlcigkdflbfdgaaGreatDoor.sg
open Go Go.Eng
noncomputable section
/-- hayrick/hayrickref30.Unquote -/
def f75c0 (X : XT) (L : LoopI) (s31_ : (Int) × (Int) × Unit) (v34_ : Int) : M (((Int) × (Int) × Unit) ⊕ (((Int) × Unit) ⊕ (((ByteArray) × (ByteArray) × (Bool) × Unit) ⊕ (Unit)))) :=
 M.join (fun (j35_ : (Int) × Unit) =>
 M.pure (.inl (j35_.1, (addW .i64 s31_.2.1 1), ()))) fun go36_ =>
 M.join (fun (j38_ : (Bool) × Unit) =>
 M.ite j38_.1
 (go36_ ((addW .i64 (mulW .i64 16 s31_.1) (wrapW .i64 (subW .u8 v34_ 48))), ()))
 (M.join (fun (j44_ : (Bool) × Unit) =>
 M.ite j44_.1
 (go36_ ((addW .i64 (addW .i64 (mulW .i64 16 s31_.1) (wrapW .i64 (subW .u8 v34_ 97))) 10), ()))
 (M.pure (.inr (.inr (.inl (st0, st0, false, ())))))) fun go45_ =>
 M.ite (leB 97 v34_)
 (go45_ ((leB v34_ 102), ()))
 (go45_ (false, ())))) fun go39_ =>
 M.ite (leB 48 v34_)
 (go39_ ((leB v34_ 57), ()))
 (go39_ (false, ()))
def f75c1 (X : XT) (L : LoopI) (x : (ByteArray) × Unit) (s2_ : (SL) × (Int) × Unit) (go6_ : ((SL) × (Int) × Unit) → M (((SL) × (Int) × Unit) ⊕ (((SL) × (Int) × Unit) ⊕ (((ByteArray) × (ByteArray) × (Bool) × Unit) ⊕ (Unit))))) : M (((SL) × (Int) × Unit) ⊕ (((SL) × (Int) × Unit) ⊕ (((ByteArray) × (ByteArray) × (Bool) × Unit) ⊕ (Unit)))) :=
 M.bind (L (σ := (Int) × (Int) × Unit) (ρ := ((Int) × Unit) ⊕ (((ByteArray) × (ByteArray) × (Bool) × Unit) ⊕ (Unit))) (fun s31_ =>
 M.ite (ltB s31_.2.1 4)
 (let v33_ : Int := addW .i64 s2_.2.1 s31_.2.1
 M.guard (inB v33_ x.1.size)
 (f75c0 X L s31_ (byteAt x.1 v33_)))
 (M.pure (.inr (.inl (s31_.1, ()))))) (0, 2, ())) <| M.sum (fun (j55_ : (Int) × Unit) =>
 M.new (.cells (Row.ofList [(.int .u8 (wrapW .u8 j55_.1))]) 5 false (0, 0) false) fun b57_ =>
 M.append 5 1 1 s2_.1.1 s2_.1.2.1 s2_.1.2.2 (.slice (some (Addr.mk b57_ 0 none)) 1 1) fun a58_ n59_ c60_ =>
 go6_ ((a58_, n59_, c60_), (addW .i64 s2_.2.1 4), ())) (M.sum (fun (j62_ : (ByteArray) × (ByteArray) × (Bool) × Unit) =>
 M.pure (.inr (.inr (.inl (j62_.1, j62_.2.1, j62_.2.2.1, ()))))) (fun _ => M.stuck))
def f75c2 (X : XT) (L : LoopI) (x : (ByteArray) × Unit) (s2_ : (SL) × (Int) × Unit) (go6_ : ((SL) × (Int) × Unit) → M (((SL) × (Int) × Unit) ⊕ (((SL) × (Int) × Unit) ⊕ (((ByteArray) × (ByteArray) × (Bool) × Unit) ⊕ (Unit))))) (v18_ : Int) : M (((SL) × (Int) × Unit) ⊕ (((SL) × (Int) × Unit) ⊕ (((ByteArray) × (ByteArray) × (Bool) × Unit) ⊕ (Unit)))) :=
 M.guard (inB v18_ x.1.size)
 (M.ite (!(eqB (byteAt x.1 v18_) 120))
 (let v21_ : Int := addW .i64 s2_.2.1 1
 M.guard (inB v21_ x.1.size)
 (M.new (.cells (Row.ofList [(.int .u8 (byteAt x.1 v21_))]) 5 false (0, 0) false) fun b23_ =>
 M.append 5 1 1 s2_.1.1 s2_.1.2.1 s2_.1.2.2 (.slice (some (Addr.mk b23_ 0 none)) 1 1) fun a24_ n25_ c26_ =>
 go6_ ((a24_, n25_, c26_), (addW .i64 s2_.2.1 2), ())))
 (M.ite (leB ((x.1.size : Nat) : Int) (addW .i64 s2_.2.1 3))
 (M.pure (.inr (.inr (.inl (st0, st0, false, ())))))
 (f75c1 X L x s2_ go6_)))
def f75c3 (X : XT) (L : LoopI) (x : (ByteArray) × Unit) (s2_ : (SL) × (Int) × Unit) (go6_ : ((SL) × (Int) × Unit) → M (((SL) × (Int) × Unit) ⊕ (((SL) × (Int) × Unit) ⊕ (((ByteArray) × (ByteArray) × (Bool) × Unit) ⊕ (Unit))))) : M (((SL) × (Int) × Unit) ⊕ (((SL) × (Int) × Unit) ⊕ (((ByteArray) × (ByteArray) × (Bool) × Unit) ⊕ (Unit)))) :=
 M.guard (inB s2_.2.1 x.1.size)
 (M.ite (!(eqB (byteAt x.1 s2_.2.1) 92))
 (M.guard (inB s2_.2.1 x.1.size)
 (M.new (.cells (Row.ofList [(.int .u8 (byteAt x.1 s2_.2.1))]) 5 false (0, 0) false) fun b10_ =>
 M.append 5 1 1 s2_.1.1 s2_.1.2.1 s2_.1.2.2 (.slice (some (Addr.mk b10_ 0 none)) 1 1) fun a11_ n12_ c13_ =>
 go6_ ((a11_, n12_, c13_), (addW .i64 s2_.2.1 1), ())))
 (M.ite (leB ((x.1.size : Nat) : Int) (addW .i64 s2_.2.1 1))
 (M.pure (.inr (.inr (.inl (st0, st0, false, ())))))
 (f75c2 X L x s2_ go6_ (addW .i64 s2_.2.1 1))))
def f75c4 (X : XT) (L : LoopI) (x : (ByteArray) × Unit) (j67_ : (SL) × (Int) × Unit) : M (Value) :=
 M.join (fun (j68_ : (Bool) × Unit) =>
 M.ite j68_.1
 (M.pure (.tuple ⟨[(.string st0), (.string st0), (.bool false)]⟩))
 (let v70_ : Int := addW .i64 j67_.2.1 1
 M.guard (upB v70_ x.1.size)
 (M.toStr j67_.1.1 j67_.1.2.1 fun s73_ =>
 M.pure (.tuple ⟨[(.string s73_), (.string (x.1.extract (Int.toNat v70_) x.1.size)), (.bool true)]⟩)))) fun go69_ =>
 M.ite (leB ((x.1.size : Nat) : Int) j67_.2.1)
 (go69_ (true, ()))
 (let v76_ : Int := addW .i64 j67_.2.1 1
 M.guard (upB v76_ x.1.size)
 (M.toStr j67_.1.1 j67_.1.2.1 fun s79_ =>
 M.callS (.one (.cell .string)) (X (.call 43 [(.string s79_)])) fun (r80_ : ByteArray) =>
 go69_ ((!(seq r80_ (x.1.extract 0 (Int.toNat v76_)))), ())))
def f75c5 (X : XT) (L : LoopI) (x : (ByteArray) × Unit) : M (Value) :=
 M.bind (L (σ := (SL) × (Int) × Unit) (ρ := ((SL) × (Int) × Unit) ⊕ (((ByteArray) × (ByteArray) × (Bool) × Unit) ⊕ (Unit))) (fun s2_ =>
 M.join (fun (j3_ : (Bool) × Unit) =>
 M.ite j3_.1
 (M.join (fun (j5_ : (SL) × (Int) × Unit) =>
 M.pure (.inl (j5_.1, j5_.2.1, ()))) fun go6_ =>
 f75c3 X L x s2_ go6_)
 (M.pure (.inr (.inl (s2_.1, s2_.2.1, ()))))) fun go4_ =>
 M.ite (ltB s2_.2.1 ((x.1.size : Nat) : Int))
 (M.guard (inB s2_.2.1 x.1.size)
 (go4_ ((!(eqB (byteAt x.1 s2_.2.1) 34)), ())))
 (go4_ (false, ()))) ((none, 0, 0), 1, ())) <| M.sum (fun (j67_ : (SL) × (Int) × Unit) =>
 f75c4 X L x j67_) (M.sum (fun (j82_ : (ByteArray) × (ByteArray) × (Bool) × Unit) =>
 M.pure (.tuple ⟨[(.string j82_.1), (.string j82_.2.1), (.bool j82_.2.2.1)]⟩)) (fun _ => M.stuck))
def f75 (X : XT) (L : LoopI) (x : (ByteArray) × Unit) : M Value :=
 M.join (fun (j0_ : (Bool) × Unit) =>
 M.ite j0_.1
 (M.pure (.tuple ⟨[(.string st0), (.string st0), (.bool false)]⟩))
 (f75c5 X L x)) fun go1_ =>
 M.ite (eqB ((x.1.size : Nat) : Int) 0)
 (go1_ (true, ()))
 (M.guard (inB 0 x.1.size)
 (go1_ ((!(eqB (byteAt x.1 0) 34)), ())))

theorem e75 (X : XT) (L : LoopI) (x : (ByteArray) × Unit) : evBody CC { call := X, loop := L } 75 (shsInj [(.cell .string)] x) = f75 X L x := by kernel_rfl

/-- internal/stringslite.HasPrefix -/
def f76 (X : XT) (L : LoopI) (x : (ByteArray) × (ByteArray) × Unit) : M Value :=
 M.join (fun (j0_ : (Bool) × Unit) =>
 M.pure (.bool j0_.1)) fun go1_ =>
 M.ite (leB ((x.2.1.size : Nat) : Int) ((x.1.size : Nat) : Int))
 (let v5_ : Int := ((x.2.1.size : Nat) : Int)
 M.guard (upB v5_ x.1.size)
 (go1_ ((seq (x.1.extract 0 (Int.toNat v5_)) x.2.1), ())))
 (go1_ (false, ()))

theorem e76 (X : XT) (L : LoopI) (x : (ByteArray) × (ByteArray) × Unit) : evBody CC { call := X, loop := L } 76 (shsInj [(.cell .string), (.cell .string)] x) = f76 X L x := by kernel_rfl

/-- internal/stringslite.IndexByte -/
def f77 (X : XT) (L : LoopI) (x : (ByteArray) × (Int) × Unit) : M Value :=
 M.pure (.int .i64 (Lib.indexByte x.1.data.toList (Int.toNat x.2.1).toUInt8))

theorem e77 (X : XT) (L : LoopI) (x : (ByteArray) × (Int) × Unit) : evBody CC { call := X, loop := L } 77 (shsInj [(.cell .string), (.cell (.int .u8))] x) = f77 X L x := by kernel_rfl

/-- unicode/utf8.decodeRuneInStringSlow -/
def f78c0 (X : XT) (L : LoopI) (v2_ : Int) (v19_ : Int) (v29_ : Int) (v43_ : Int) (j44_ : (Bool) × Unit) : M (Value) :=
 M.ite j44_.1
 (M.pure (.tuple ⟨[(.int .i32 65533), (.int .i64 1)]⟩))
 (M.guard (decide (0 ≤ 18))
 (M.guard (decide (0 ≤ 12))
 (M.guard (decide (0 ≤ 6))
 (M.pure (.tuple ⟨[(.int .i32 (orW .i32 (orW .i32 (orW .i32 (IntKind.i32.wrap ((wrapW .i32 (andW .u8 v2_ 7)) * 2 ^ (min (Int.toNat 18) IntKind.i32.bits))) (IntKind.i32.wrap ((wrapW .i32 (andW .u8 v19_ 63)) * 2 ^ (min (Int.toNat 12) IntKind.i32.bits)))) (IntKind.i32.wrap ((wrapW .i32 (andW .u8 v29_ 63)) * 2 ^ (min (Int.toNat 6) IntKind.i32.bits)))) (wrapW .i32 (andW .u8 v43_ 63)))), (.int .i64 4)]⟩)))))
def f78c1 (X : XT) (L : LoopI) (x : (ByteArray) × Unit) (v2_ : Int) (v19_ : Int) (v29_ : Int) (v32_ : Bool) : M (Value) :=
 M.ite v32_
 (M.guard (decide (0 ≤ 12))
 (M.guard (decide (0 ≤ 6))
 (M.pure (.tuple ⟨[(.int .i32 (orW .i32 (orW .i32 (IntKind.i32.wrap ((wrapW .i32 (andW .u8 v2_ 15)) * 2 ^ (min (Int.toNat 12) IntKind.i32.bits))) (IntKind.i32.wrap ((wrapW .i32 (andW .u8 v19_ 63)) * 2 ^ (min (Int.toNat 6) IntKind.i32.bits)))) (wrapW .i32 (andW .u8 v29_ 63)))), (.int .i64 3)]⟩))))
 (M.guard (inB 3 x.1.size)
 (let v43_ : Int := byteAt x.1 3
 M.join (fun (j44_ : (Bool) × Unit) =>
 f78c0 X L v2_ v19_ v29_ v43_ j44_) fun go45_ =>
 M.ite (ltB v43_ 128)
 (go45_ (true, ()))
 (go45_ ((ltB 191 v43_), ()))))
def f78c2 (X : XT) (L : LoopI) (x : (ByteArray) × Unit) (v2_ : Int) (v14_ : Int) (v19_ : Int) (v22_ : Bool) : M (Value) :=
 M.ite v22_
 (M.guard (decide (0 ≤ 6))
 (M.pure (.tuple ⟨[(.int .i32 (orW .i32 (IntKind.i32.wrap ((wrapW .i32 (andW .u8 v2_ 31)) * 2 ^ (min (Int.toNat 6) IntKind.i32.bits))) (wrapW .i32 (andW .u8 v19_ 63)))), (.int .i64 2)]⟩)))
 (M.guard (inB 2 x.1.size)
 (let v29_ : Int := byteAt x.1 2
 M.join (fun (j30_ : (Bool) × Unit) =>
 M.ite j30_.1
 (M.pure (.tuple ⟨[(.int .i32 65533), (.int .i64 1)]⟩))
 (f78c1 X L x v2_ v19_ v29_ (leB v14_ 3))) fun go31_ =>
 M.ite (ltB v29_ 128)
 (go31_ (true, ()))
 (go31_ ((ltB 191 v29_), ()))))
def f78c3 (X : XT) (L : LoopI) (x : (ByteArray) × Unit) (v2_ : Int) (v14_ : Int) (b17_ : Nat) (v18_ : Bool) : M (Value) :=
 M.ite v18_
 (M.pure (.tuple ⟨[(.int .i32 65533), (.int .i64 1)]⟩))
 (M.guard (inB 1 x.1.size)
 (let v19_ : Int := byteAt x.1 1
 M.join (fun (j20_ : (Bool) × Unit) =>
 M.ite j20_.1
 (M.pure (.tuple ⟨[(.int .i32 65533), (.int .i64 1)]⟩))
 (f78c2 X L x v2_ v14_ v19_ (leB v14_ 2))) fun go21_ =>
 M.load (.cell (.int .u8)) 1 ((Addr.mk b17_ 0 none).add 0) fun (x64_ : Int) =>
 M.ite (ltB v19_ x64_)
 (go21_ (true, ()))
 (M.load (.cell (.int .u8)) 1 ((Addr.mk b17_ 0 none).add 1) fun (x66_ : Int) =>
 go21_ ((ltB x66_ v19_), ()))))
def f78c4 (X : XT) (L : LoopI) (x : (ByteArray) × Unit) (v0_ : Int) (v2_ : Int) (x3_ : Int) : M (Value) :=
 let v14_ : Int := wrapW .i64 (andW .u8 x3_ 7)
 M.guard (decide (0 ≤ 4))
 (let v15_ : Int := ((x3_ : Int)).fdiv (2 ^ (min (Int.toNat 4) IntKind.u8.bits))
 M.guard (inB v15_ 16)
 (M.load (.agg [(.int .u8), (.int .u8)]) 2 ((Addr.mk 1 0 none).add ((Int.toNat v15_) * 2)) fun (x16_ : Int × Int × Unit) =>
 M.new (.cells (Row.ofList [(.int .u8 0), (.int .u8 0)]) 135 false (0, 0) false) fun b17_ =>
 M.store (Addr.mk b17_ 0 none) [(.int .u8 x16_.1), (.int .u8 x16_.2.1)]
 (f78c3 X L x v2_ v14_ b17_ (ltB v0_ v14_))))
def f78c5 (X : XT) (L : LoopI) (x : (ByteArray) × Unit) (v0_ : Int) (v2_ : Int) : M (Value) :=
 M.load (.cell (.int .u8)) 1 ((Addr.mk 0 0 none).add ((Int.toNat v2_) * 1)) fun (x3_ : Int) =>
 M.ite (leB 240 x3_)
 (M.guard (decide (0 ≤ 31))
 (M.guard (decide (0 ≤ 31))
 (let v7_ : Int := (((IntKind.i32.wrap ((wrapW .i32 x3_) * 2 ^ (min (Int.toNat 31) IntKind.i32.bits))) : Int)).fdiv (2 ^ (min (Int.toNat 31) IntKind.i32.bits))
 M.guard (inB 0 x.1.size)
 (M.pure (.tuple ⟨[(.int .i32 (orW .i32 (bitsV .andNot .i32 (wrapW .i32 (byteAt x.1 0)) v7_) (andW .i32 65533 v7_))), (.int .i64 1)]⟩)))))
 (f78c4 X L x v0_ v2_ x3_)
def f78 (X : XT) (L : LoopI) (x : (ByteArray) × Unit) : M Value :=
 let v0_ : Int := ((x.1.size : Nat) : Int)
 M.ite (ltB v0_ 1)
 (M.pure (.tuple ⟨[(.int .i32 65533), (.int .i64 0)]⟩))
 (M.guard (inB 0 x.1.size)
 (let v2_ : Int := byteAt x.1 0
 M.guard (inB v2_ 256)
 (f78c5 X L x v0_ v2_)))

theorem e78 (X : XT) (L : LoopI) (x : (ByteArray) × Unit) : evBody CC { call := X, loop := L } 78 (shsInj [(.cell .string)] x) = f78 X L x := by kernel_rfl

/-- unicode/utf8.AppendRune -/
def f79 (X : XT) (L : LoopI) (x : (SL) × (Int) × Unit) : M Value :=
 M.ite (leB (wrapW .u32 x.2.1) 127)
 (M.new (.cells (Row.ofList [(.int .u8 (wrapW .u8 x.2.1))]) 5 false (0, 0) false) fun b3_ =>
 M.append 5 1 1 x.1.1 x.1.2.1 x.1.2.2 (.slice (some (Addr.mk b3_ 0 none)) 1 1) fun a4_ n5_ c6_ =>
 M.pure (.slice a4_ n5_ c6_))
 (M.callS (.one (.cell .slice)) (X (.call 87 [(.slice x.1.1 x.1.2.1 x.1.2.2), (.int .i32 x.2.1)])) fun (r7_ : SL) =>
 M.pure (.slice r7_.1 r7_.2.1 r7_.2.2))

theorem e79 (X : XT) (L : LoopI) (x : (SL) × (Int) × Unit) : evBody CC { call := X, loop := L } 79 (shsInj [(.cell .slice), (.cell (.int .i32))] x) = f79 X L x := by kernel_rfl

/-- strings.genSplit -/
def f81c0 (X : XT) (L : LoopI) (x : (ByteArray) × (ByteArray) × (Int) × (Int) × Unit) (v7_ : Int) (b8_ : Nat) (s10_ : (ByteArray) × (Int) × Unit) : M (((ByteArray) × (Int) × Unit) ⊕ (((ByteArray) × (Int) × Unit) ⊕ (Unit))) :=
 M.callS (.one (.cell (.int .i64))) (X (.call 90 [(.string s10_.1), (.string x.2.1)])) fun (r12_ : Int) =>
 M.ite (ltB r12_ 0)
 (M.pure (.inr (.inl (s10_.1, s10_.2.1, ()))))
 (let v14_ : Int := addW .i64 r12_ x.2.2.1
 M.guard (upB v14_ s10_.1.size)
 (M.guard (inB s10_.2.1 (Int.toNat v7_))
 (M.store ((Addr.mk b8_ 0 none).add ((Int.toNat s10_.2.1) * 1)) [(.string (s10_.1.extract 0 (Int.toNat v14_)))]
 (let v18_ : Int := addW .i64 r12_ ((x.2.1.size : Nat) : Int)
 M.guard (upB v18_ s10_.1.size)
 (M.pure (.inl ((s10_.1.extract (Int.toNat v18_) s10_.1.size), (addW .i64 s10_.2.1 1), ())))))))
def f81c1 (X : XT) (L : LoopI) (x : (ByteArray) × (ByteArray) × (Int) × (Int) × Unit) (v7_ : Int) (b8_ : Nat) (v9_ : Int) : M (Value) :=
 M.bind (L (σ := (ByteArray) × (Int) × Unit) (ρ := ((ByteArray) × (Int) × Unit) ⊕ (Unit)) (fun s10_ =>
 M.ite (ltB s10_.2.1 v9_)
 (f81c0 X L x v7_ b8_ s10_)
 (M.pure (.inr (.inl (s10_.1, s10_.2.1, ()))))) (x.1, 0, ())) <| M.sum (fun (j22_ : (ByteArray) × (Int) × Unit) =>
 M.guard (inB j22_.2.1 (Int.toNat v7_))
 (M.store ((Addr.mk b8_ 0 none).add ((Int.toNat j22_.2.1) * 1)) [(.string j22_.1)]
 (let v23_ : Int := addW .i64 j22_.2.1 1
 M.guard (upB v23_ (Int.toNat v7_))
 (M.pure (.slice (some ((Addr.mk b8_ 0 none).add (0 * 1))) ((Int.toNat v23_) - 0) ((Int.toNat v7_) - 0)))))) (fun _ => M.stuck)
def f81c2 (X : XT) (L : LoopI) (x : (ByteArray) × (ByteArray) × (Int) × (Int) × Unit) : M (Value) :=
 M.join (fun (j3_ : (Int) × Unit) =>
 let v6_ : Int := addW .i64 ((x.1.size : Nat) : Int) 1
 let v7_ : Int := (if v6_ < j3_.1 then v6_ else j3_.1)
 M.guard (decide (0 ≤ v7_) && decide (v7_ ≤ v7_) && decide ((16 : Int) * v7_ ≤ 2 ^ 48))
 (M.new (.cells (Row.rep [(.string st0)] (Int.toNat v7_)) 9 false (0, 0) false) fun b8_ =>
 f81c1 X L x v7_ b8_ (subW .i64 v7_ 1))) fun go4_ =>
 M.ite (ltB x.2.2.2.1 0)
 (M.callS (.one (.cell (.int .i64))) (X (.call 89 [(.string x.1), (.string x.2.1)])) fun (r26_ : Int) =>
 go4_ ((addW .i64 r26_ 1), ()))
 (go4_ (x.2.2.2.1, ()))
def f81 (X : XT) (L : LoopI) (x : (ByteArray) × (ByteArray) × (Int) × (Int) × Unit) : M Value :=
 M.ite (eqB x.2.2.2.1 0)
 (M.pure (.slice none 0 0))
 (M.ite (seq x.2.1 st0)
 (M.callS (.one (.cell .slice)) (X (.call 88 [(.string x.1), (.int .i64 x.2.2.2.1)])) fun (r2_ : SL) =>
 M.pure (.slice r2_.1 r2_.2.1 r2_.2.2))
 (f81c2 X L x))

theorem e81 (X : XT) (L : LoopI) (x : (ByteArray) × (ByteArray) × (Int) × (Int) × Unit) : evBody CC { call := X, loop := L } 81 (shsInj [(.cell .string), (.cell .string), (.cell (.int .i64)), (.cell (.int .i64))] x) = f81 X L x := by kernel_rfl

/-- internal/strconv.FormatInt -/
def f82c0 (X : XT) (L : LoopI) (b4_ : Nat) (r8_ : Int) (v13_ : Bool) : M (Value) :=
 M.ite v13_
 (M.guard (inB 0 24)
 (M.store ((Addr.mk b4_ 0 none).add ((Int.toNat 0) * 1)) [(.int .u8 45)]
 (let v14_ : Int := addW .i64 1 r8_
 M.guard (upB v14_ 24)
 (M.toStr (some ((Addr.mk b4_ 0 none).add (0 * 1))) ((Int.toNat v14_) - 0) fun s16_ =>
 M.pure (.string s16_)))))
 (let v17_ : Int := addW .i64 1 r8_
 M.guard (upB v17_ 24)
 (let v18_ : Nat := (Int.toNat v17_)
 M.guard (upB 1 v18_)
 (let v19_ : Nat := (Int.toNat 1)
 M.toStr (some ((Addr.mk b4_ 0 none).add (v19_ * 1))) (v18_ - v19_) fun s20_ =>
 M.pure (.string s20_))))
def f82c1 (X : XT) (L : LoopI) (x : (Int) × (Int) × Unit) (b4_ : Nat) (v5_ : Int) : M (Value) :=
 M.join (fun (j6_ : (Int) × Unit) =>
 M.callS (.one (.cell (.int .i64))) (X (.call 92 [(.int .u64 j6_.1)])) fun (r8_ : Int) =>
 let v9_ : Int := addW .i64 1 r8_
 M.guard (upB v9_ 24)
 (let v10_ : Nat := (Int.toNat v9_)
 M.guard (upB 1 v10_)
 (let v11_ : Nat := (Int.toNat 1)
 M.callS (.tuple []) (X (.call 93 [(.slice (some ((Addr.mk b4_ 0 none).add (v11_ * 1))) (v10_ - v11_) (24 - v11_)), (.int .u64 j6_.1)])) fun (r12_ : Unit) =>
 f82c0 X L b4_ r8_ (ltB x.1 0)))) fun go7_ =>
 M.ite (ltB x.1 0)
 (go7_ ((IntKind.u64.wrap (0 - v5_)), ()))
 (go7_ (v5_, ()))
def f82c2 (X : XT) (L : LoopI) (x : (Int) × (Int) × Unit) (v0_ : Bool) : M (Value) :=
 M.ite v0_
 (M.join (fun (j1_ : (Bool) × Unit) =>
 M.ite j1_.1
 (M.callS (.one (.cell .string)) (X (.call 91 [(.int .i64 x.1)])) fun (r3_ : ByteArray) =>
 M.pure (.string r3_))
 (M.new (.cells (Row.ofList (zc 139)) 139 false (0, 0) false) fun b4_ =>
 f82c1 X L x b4_ (wrapW .u64 x.1))) fun go2_ =>
 M.ite (leB 0 x.1)
 (go2_ ((ltB x.1 100), ()))
 (go2_ (false, ())))
 (M.callS (.tuple [(.cell .slice), (.cell .string)]) (X (.call 94 [(.slice none 0 0), (.int .u64 (wrapW .u64 x.1)), (.int .i64 x.2.1), (.bool (ltB x.1 0)), (.bool false)])) fun (r27_ : (SL) × (ByteArray) × Unit) =>
 M.pure (.string r27_.2.1))
def f82 (X : XT) (L : LoopI) (x : (Int) × (Int) × Unit) : M Value :=
 f82c2 X L x (eqB x.2.1 10)

theorem e82 (X : XT) (L : LoopI) (x : (Int) × (Int) × Unit) : evBody CC { call := X, loop := L } 82 (shsInj [(.cell (.int .i64)), (.cell (.int .i64))] x) = f82 X L x := by kernel_rfl

/-- internal/stringslite.Index -/
def f83c0 (X : XT) (L : LoopI) (x : (ByteArray) × (ByteArray) × Unit) (v0_ : Int) (v14_ : Int) (v21_ : Int) (v22_ : Int) : M (((Int) × (Int) × Unit) ⊕ ((Unit) ⊕ (((Int) × Unit) ⊕ (Unit)))) :=
 M.join (fun (j27_ : (Bool) × Unit) =>
 M.ite j27_.1
 (M.guard (upB v21_ x.1.size)
 (M.callS (.one (.cell (.int .i64))) (X (.call 97 [(.string (x.1.extract (Int.toNat v21_) x.1.size)), (.string x.2.1)])) fun (r31_ : Int) =>
 M.ite (ltB r31_ 0)
 (M.pure (.inr (.inr (.inl ((-1), ())))))
 (M.pure (.inr (.inr (.inl ((addW .i64 v21_ r31_), ())))))))
 (M.pure (.inl (v21_, v22_, ())))) fun go28_ =>
 M.load (.cell (.int .i64)) 1 (Addr.mk 2 0 none) fun (x34_ : Int) =>
 M.ite (ltB x34_ v0_)
 (M.guard (decide (0 ≤ 4))
 (M.ite (leB (addW .i64 4 (((v21_ : Int)).fdiv (2 ^ (min (Int.toNat 4) IntKind.i64.bits)))) v22_)
 (go28_ ((ltB v21_ v14_), ()))
 (go28_ (false, ()))))
 (go28_ (false, ()))
def f83c1 (X : XT) (L : LoopI) (x : (ByteArray) × (ByteArray) × Unit) (v0_ : Int) (v11_ : Int) (v14_ : Int) (s15_ : (Int) × (Int) × Unit) (j17_ : (Int) × Unit) : M (((Int) × (Int) × Unit) ⊕ ((Unit) ⊕ (((Int) × Unit) ⊕ (Unit)))) :=
 M.join (fun (j19_ : (Bool) × Unit) =>
 M.ite j19_.1
 (M.pure (.inr (.inr (.inl (j17_.1, ())))))
 (let v21_ : Int := addW .i64 j17_.1 1
 let v22_ : Int := addW .i64 s15_.2.1 1
 M.join (fun (j23_ : (Bool) × Unit) =>
 M.ite j23_.1
 (M.guard (upB v21_ x.1.size)
 (M.stuck))
 (f83c0 X L x v0_ v14_ v21_ v22_)) fun go24_ =>
 M.load (.cell (.int .i64)) 1 (Addr.mk 2 0 none) fun (x40_ : Int) =>
 M.ite (leB v0_ x40_)
 (M.callS (.one (.cell (.int .i64))) (X (.call 96 [(.int .i64 v21_)])) fun (r42_ : Int) =>
 go24_ ((ltB r42_ v22_), ()))
 (go24_ (false, ())))) fun go20_ =>
 let v44_ : Int := addW .i64 j17_.1 1
 M.guard (inB v44_ x.1.size)
 (M.ite (eqB (byteAt x.1 v44_) v11_)
 (let v47_ : Int := addW .i64 j17_.1 v0_
 M.guard (upB v47_ x.1.size)
 (let v48_ : Nat := (Int.toNat v47_)
 M.guard (upB j17_.1 v48_)
 (go20_ ((seq (x.1.extract (Int.toNat j17_.1) v48_) x.2.1), ()))))
 (go20_ (false, ())))
def f83c2 (X : XT) (L : LoopI) (x : (ByteArray) × (ByteArray) × Unit) (v0_ : Int) (v10_ : Int) (v11_ : Int) (v14_ : Int) (s15_ : (Int) × (Int) × Unit) : M (((Int) × (Int) × Unit) ⊕ ((Unit) ⊕ (((Int) × Unit) ⊕ (Unit)))) :=
 M.join (fun (j17_ : (Int) × Unit) =>
 f83c1 X L x v0_ v11_ v14_ s15_ j17_) fun go18_ =>
 M.guard (inB s15_.1 x.1.size)
 (M.ite (!(eqB (byteAt x.1 s15_.1) v10_))
 (let v54_ : Int := addW .i64 s15_.1 1
 M.guard (upB v14_ x.1.size)
 (let v55_ : Nat := (Int.toNat v14_)
 M.guard (upB v54_ v55_)
 (M.callS (.one (.cell (.int .i64))) (X (.call 77 [(.string (x.1.extract (Int.toNat v54_) v55_)), (.int .u8 v10_)])) fun (r58_ : Int) =>
 M.ite (ltB r58_ 0)
 (M.pure (.inr (.inr (.inl ((-1), ())))))
 (go18_ ((addW .i64 s15_.1 (addW .i64 r58_ 1)), ())))))
 (go18_ (s15_.1, ())))
def f83c3 (X : XT) (L : LoopI) (x : (ByteArray) × (ByteArray) × Unit) (v0_ : Int) (j8_ : (Bool) × Unit) : M (Value) :=
 M.ite j8_.1
 (M.stuck)
 (M.guard (inB 0 x.2.1.size)
 (M.guard (inB 1 x.2.1.size)
 (let v14_ : Int := addW .i64 (subW .i64 ((x.1.size : Nat) : Int) v0_) 1
 M.bind (L (σ := (Int) × (Int) × Unit) (ρ := (Unit) ⊕ (((Int) × Unit) ⊕ (Unit))) (fun s15_ =>
 M.ite (ltB s15_.1 v14_)
 (f83c2 X L x v0_ (byteAt x.2.1 0) (byteAt x.2.1 1) v14_ s15_)
 (M.pure (.inr (.inl (()))))) (0, 0, ())) <| M.sum (fun (j62_ : Unit) =>
 M.pure (.int .i64 (-1))) (M.sum (fun (j63_ : (Int) × Unit) =>
 M.pure (.int .i64 j63_.1)) (fun _ => M.stuck)))))
def f83c4 (X : XT) (L : LoopI) (x : (ByteArray) × (ByteArray) × Unit) (v0_ : Int) (j1_ : (Bool) × Unit) : M (Value) :=
 M.ite j1_.1
 (M.pure (.int .i64 0))
 (M.ite (eqB v0_ 1)
 (M.guard (inB 0 x.2.1.size)
 (M.callS (.one (.cell (.int .i64))) (X (.call 77 [(.string x.1), (.int .u8 (byteAt x.2.1 0))])) fun (r5_ : Int) =>
 M.pure (.int .i64 r5_)))
 (M.ite (leB ((x.1.size : Nat) : Int) v0_)
 (M.pure (.int .i64 (-1)))
 (M.join (fun (j8_ : (Bool) × Unit) =>
 f83c3 X L x v0_ j8_) fun go9_ =>
 M.load (.cell (.int .i64)) 1 (Addr.mk 2 0 none) fun (x64_ : Int) =>
 M.ite (leB v0_ x64_)
 (go9_ ((leB ((x.1.size : Nat) : Int) 64), ()))
 (go9_ (false, ())))))
def f83 (X : XT) (L : LoopI) (x : (ByteArray) × (ByteArray) × Unit) : M Value :=
 let v0_ : Int := ((x.2.1.size : Nat) : Int)
 M.join (fun (j1_ : (Bool) × Unit) =>
 f83c4 X L x v0_ j1_) fun go2_ =>
 M.ite (eqB v0_ 0)
 (go2_ (true, ()))
 (go2_ ((seq x.2.1 x.1), ()))

theorem e83 (X : XT) (L : LoopI) (x : (ByteArray) × (ByteArray) × Unit) : evBody CC { call := X, loop := L } 83 (shsInj [(.cell .string), (.cell .string)] x) = f83 X L x := by kernel_rfl

/-- internal/strconv.Atoi -/
def f84c0 (X : XT) (L : LoopI) (x : (ByteArray) × Unit) (a5_ : PA) (n6_ : Nat) (v8_ : Int) : M (Value) :=
 M.bind (L (σ := (Int) × (Int) × Unit) (ρ := ((Int) × Unit) ⊕ (((Int) × (Value) × Unit) ⊕ (Unit))) (fun s9_ =>
 M.ite (ltB s9_.2.1 v8_)
 (M.guard (inB s9_.2.1 n6_)
 (M.deref a5_ fun a11_ =>
 M.load (.cell (.int .u8)) 1 (a11_.add ((Int.toNat s9_.2.1) * 1)) fun (x12_ : Int) =>
 let v13_ : Int := subW .u8 x12_ 48
 M.ite (ltB 9 v13_)
 (M.pure (.inr (.inr (.inl (0, (.iface 145 (.int .i64 2)), ())))))
 (M.pure (.inl ((addW .i64 (mulW .i64 s9_.1 10) (wrapW .i64 v13_)), (addW .i64 s9_.2.1 1), ())))))
 (M.pure (.inr (.inl (s9_.1, ()))))) (0, 0, ())) <| M.sum (fun (j19_ : (Int) × Unit) =>
 M.join (fun (j20_ : (Int) × Unit) =>
 M.pure (.tuple ⟨[(.int .i64 j20_.1), .nilIface]⟩)) fun go21_ =>
 M.guard (inB 0 x.1.size)
 (M.ite (eqB (byteAt x.1 0) 45)
 (go21_ ((IntKind.i64.wrap (0 - j19_.1)), ()))
 (go21_ (j19_.1, ())))) (M.sum (fun (j25_ : (Int) × (Value) × Unit) =>
 M.pure (.tuple ⟨[(.int .i64 j25_.1), j25_.2.1]⟩)) (fun _ => M.stuck))
def f84c1 (X : XT) (L : LoopI) (x : (ByteArray) × Unit) : M (Value) :=
 M.join (fun (j3_ : (ByteArray) × Unit) =>
 M.ofStr 5 j3_.1 fun a5_ n6_ c7_ =>
 f84c0 X L x a5_ n6_ ((n6_ : Nat) : Int)) fun go4_ =>
 M.join (fun (j26_ : (Bool) × Unit) =>
 M.ite j26_.1
 (M.guard (upB 1 x.1.size)
 (let v29_ : ByteArray := x.1.extract (Int.toNat 1) x.1.size
 M.ite (ltB ((v29_.size : Nat) : Int) 1)
 (M.pure (.tuple ⟨[(.int .i64 0), (.iface 145 (.int .i64 2))]⟩))
 (go4_ (v29_, ()))))
 (go4_ (x.1, ()))) fun go27_ =>
 M.guard (inB 0 x.1.size)
 (M.ite (eqB (byteAt x.1 0) 45)
 (go27_ (true, ()))
 (M.guard (inB 0 x.1.size)
 (go27_ ((eqB (byteAt x.1 0) 43), ()))))
def f84 (X : XT) (L : LoopI) (x : (ByteArray) × Unit) : M Value :=
 let v0_ : Int := ((x.1.size : Nat) : Int)
 M.join (fun (j1_ : (Bool) × Unit) =>
 M.ite j1_.1
 (f84c1 X L x)
 (M.callS (.tuple [(.cell (.int .i64)), (.cell .val)]) (X (.call 98 [(.string x.1), (.int .i64 10), (.int .i64 0)])) fun (r36_ : (Int) × (Value) × Unit) =>
 M.pure (.tuple ⟨[(.int .i64 r36_.1), r36_.2.1]⟩))) fun go2_ =>
 M.ite (ltB 0 v0_)
 (go2_ ((ltB v0_ 19), ()))
 (go2_ (false, ()))

theorem e84 (X : XT) (L : LoopI) (x : (ByteArray) × Unit) : evBody CC { call := X, loop := L } 84 (shsInj [(.cell .string)] x) = f84 X L x := by kernel_rfl

/-- strconv.toError -/
def f85c0 (X : XT) (L : LoopI) (x : (ByteArray) × (ByteArray) × (Int) × (Int) × (Value) × Unit) : M (Value) :=
 aEql PP 87 false false x.2.2.2.2.1 (.iface 145 (.int .i64 3)) fun (q4_ : Bool) =>
 M.ite q4_
 (M.callS (.one (.cell .ptr)) (X (.call 101 [(.string x.1), (.string x.2.1), (.int .i64 x.2.2.1)])) fun (r5_ : PA) =>
 M.pure (.iface 148 (.pointer r5_)))
 (aEql PP 87 false false x.2.2.2.2.1 (.iface 145 (.int .i64 4)) fun (q6_ : Bool) =>
 M.ite q6_
 (M.callS (.one (.cell .ptr)) (X (.call 102 [(.string x.1), (.string x.2.1), (.int .i64 x.2.2.2.1)])) fun (r7_ : PA) =>
 M.pure (.iface 148 (.pointer r7_)))
 (M.pure x.2.2.2.2.1))
def f85 (X : XT) (L : LoopI) (x : (ByteArray) × (ByteArray) × (Int) × (Int) × (Value) × Unit) : M Value :=
 aEql PP 87 false false x.2.2.2.2.1 (.iface 145 (.int .i64 2)) fun (q0_ : Bool) =>
 M.ite q0_
 (M.callS (.one (.cell .ptr)) (X (.call 99 [(.string x.1), (.string x.2.1)])) fun (r1_ : PA) =>
 M.pure (.iface 148 (.pointer r1_)))
 (aEql PP 87 false false x.2.2.2.2.1 (.iface 145 (.int .i64 1)) fun (q2_ : Bool) =>
 M.ite q2_
 (M.callS (.one (.cell .ptr)) (X (.call 100 [(.string x.1), (.string x.2.1)])) fun (r3_ : PA) =>
 M.pure (.iface 148 (.pointer r3_)))
 (f85c0 X L x))

theorem e85 (X : XT) (L : LoopI) (x : (ByteArray) × (ByteArray) × (Int) × (Int) × (Value) × Unit) : evBody CC { call := X, loop := L } 85 (shsInj [(.cell .string), (.cell .string), (.cell (.int .i64)), (.cell (.int .i64)), (.cell .val)] x) = f85 X L x := by kernel_rfl

/-- unicode/utf8.appendRuneNonASCII -/
def f87c0 (X : XT) (L : LoopI) (x : (SL) × (Int) × Unit) : M (Value) :=
 M.guard (decide (0 ≤ 12))
 (M.guard (decide (0 ≤ 6))
 (M.new (.cells (Row.ofList [(.int .u8 (orW .u8 224 (wrapW .u8 (((x.2.1 : Int)).fdiv (2 ^ (min (Int.toNat 12) IntKind.i32.bits)))))), (.int .u8 (orW .u8 128 (andW .u8 (wrapW .u8 (((x.2.1 : Int)).fdiv (2 ^ (min (Int.toNat 6) IntKind.i32.bits)))) 63))), (.int .u8 (orW .u8 128 (andW .u8 (wrapW .u8 x.2.1) 63)))]) 5 false (0, 0) false) fun b24_ =>
 M.append 5 1 1 x.1.1 x.1.2.1 x.1.2.2 (.slice (some (Addr.mk b24_ 0 none)) 3 3) fun a25_ n26_ c27_ =>
 M.pure (.slice a25_ n26_ c27_)))
def f87c1 (X : XT) (L : LoopI) (x : (SL) × (Int) × Unit) (v32_ : Int) : M (Value) :=
 M.guard (decide (0 ≤ 12))
 (M.guard (decide (0 ≤ 6))
 (M.new (.cells (Row.ofList [(.int .u8 v32_), (.int .u8 (orW .u8 128 (andW .u8 (wrapW .u8 (((x.2.1 : Int)).fdiv (2 ^ (min (Int.toNat 12) IntKind.i32.bits)))) 63))), (.int .u8 (orW .u8 128 (andW .u8 (wrapW .u8 (((x.2.1 : Int)).fdiv (2 ^ (min (Int.toNat 6) IntKind.i32.bits)))) 63))), (.int .u8 (orW .u8 128 (andW .u8 (wrapW .u8 x.2.1) 63)))]) 5 false (0, 0) false) fun b44_ =>
 M.append 5 1 1 x.1.1 x.1.2.1 x.1.2.2 (.slice (some (Addr.mk b44_ 0 none)) 4 4) fun a45_ n46_ c47_ =>
 M.pure (.slice a45_ n46_ c47_)))
def f87c2 (X : XT) (L : LoopI) (x : (SL) × (Int) × Unit) (v0_ : Int) : M (Value) :=
 M.join (fun (j28_ : (Bool) × Unit) =>
 M.ite j28_.1
 (M.guard (decide (0 ≤ 18))
 (f87c1 X L x (orW .u8 240 (wrapW .u8 (((x.2.1 : Int)).fdiv (2 ^ (min (Int.toNat 18) IntKind.i32.bits)))))))
 (M.new (.cells (Row.ofList [(.int .u8 239), (.int .u8 191), (.int .u8 189)]) 5 false (0, 0) false) fun b48_ =>
 M.append 5 1 1 x.1.1 x.1.2.1 x.1.2.2 (.slice (some (Addr.mk b48_ 0 none)) 3 3) fun a49_ n50_ c51_ =>
 M.pure (.slice a49_ n50_ c51_))) fun go29_ =>
 M.ite (ltB 65535 v0_)
 (go29_ ((leB v0_ 1114111), ()))
 (go29_ (false, ()))
def f87c3 (X : XT) (L : LoopI) (x : (SL) × (Int) × Unit) (v0_ : Int) (v1_ : Bool) : M (Value) :=
 M.ite v1_
 (M.guard (decide (0 ≤ 6))
 (M.new (.cells (Row.ofList [(.int .u8 (orW .u8 192 (wrapW .u8 (((x.2.1 : Int)).fdiv (2 ^ (min (Int.toNat 6) IntKind.i32.bits)))))), (.int .u8 (orW .u8 128 (andW .u8 (wrapW .u8 x.2.1) 63)))]) 5 false (0, 0) false) fun b8_ =>
 M.append 5 1 1 x.1.1 x.1.2.1 x.1.2.2 (.slice (some (Addr.mk b8_ 0 none)) 2 2) fun a9_ n10_ c11_ =>
 M.pure (.slice a9_ n10_ c11_)))
 (M.join (fun (j12_ : (Bool) × Unit) =>
 M.ite j12_.1
 (f87c0 X L x)
 (f87c2 X L x v0_)) fun go13_ =>
 M.ite (ltB v0_ 55296)
 (go13_ (true, ()))
 (M.join (fun (j55_ : (Bool) × Unit) =>
 go13_ (j55_.1, ())) fun go56_ =>
 M.ite (ltB 57343 v0_)
 (go56_ ((leB v0_ 65535), ()))
 (go56_ (false, ()))))
def f87 (X : XT) (L : LoopI) (x : (SL) × (Int) × Unit) : M Value :=
 let v0_ : Int := wrapW .u32 x.2.1
 f87c3 X L x v0_ (leB v0_ 2047)

theorem e87 (X : XT) (L : LoopI) (x : (SL) × (Int) × Unit) : evBody CC { call := X, loop := L } 87 (shsInj [(.cell .slice), (.cell (.int .i32))] x) = f87 X L x := by kernel_rfl

/-- strings.explode -/
def f88c0 (X : XT) (L : LoopI) (j1_ : (Int) × Unit) (b3_ : Nat) (s4_ : (ByteArray) × (Int) × Unit) (v5_ : Int) : M (((ByteArray) × (Int) × Unit) ⊕ (((ByteArray) × Unit) ⊕ (Unit))) :=
 M.ite (ltB s4_.2.1 v5_)
 (M.callS (.tuple [(.cell (.int .i32)), (.cell (.int .i64))]) (X (.call 62 [(.string s4_.1)])) fun (r7_ : (Int) × (Int) × Unit) =>
 M.guard (upB r7_.2.1 s4_.1.size)
 (M.guard (inB s4_.2.1 (Int.toNat j1_.1))
 (M.store ((Addr.mk b3_ 0 none).add ((Int.toNat s4_.2.1) * 1)) [(.string (s4_.1.extract 0 (Int.toNat r7_.2.1)))]
 (M.guard (upB r7_.2.1 s4_.1.size)
 (M.pure (.inl ((s4_.1.extract (Int.toNat r7_.2.1) s4_.1.size), (addW .i64 s4_.2.1 1), ())))))))
 (M.pure (.inr (.inl (s4_.1, ()))))
def f88c1 (X : XT) (L : LoopI) (x : (ByteArray) × (Int) × Unit) (j1_ : (Int) × Unit) (b3_ : Nat) : M (Value) :=
 M.bind (L (σ := (ByteArray) × (Int) × Unit) (ρ := ((ByteArray) × Unit) ⊕ (Unit)) (fun s4_ =>
 f88c0 X L j1_ b3_ s4_ (subW .i64 j1_.1 1)) (x.1, 0, ())) <| M.sum (fun (j13_ : (ByteArray) × Unit) =>
 M.join (fun (j14_ : Unit) =>
 M.pure (.slice (some (Addr.mk b3_ 0 none)) (Int.toNat j1_.1) (Int.toNat j1_.1))) fun go15_ =>
 M.ite (ltB 0 j1_.1)
 (let v17_ : Int := subW .i64 j1_.1 1
 M.guard (inB v17_ (Int.toNat j1_.1))
 (M.store ((Addr.mk b3_ 0 none).add ((Int.toNat v17_) * 1)) [(.string j13_.1)]
 (go15_ (()))))
 (go15_ (()))) (fun _ => M.stuck)
def f88c2 (X : XT) (L : LoopI) (x : (ByteArray) × (Int) × Unit) : M (Value) :=
 M.callS (.one (.cell (.int .i64))) (X (.call 103 [(.string x.1)])) fun (r0_ : Int) =>
 M.join (fun (j1_ : (Int) × Unit) =>
 M.guard (decide (0 ≤ j1_.1) && decide (j1_.1 ≤ j1_.1) && decide ((16 : Int) * j1_.1 ≤ 2 ^ 48))
 (M.new (.cells (Row.rep [(.string st0)] (Int.toNat j1_.1)) 9 false (0, 0) false) fun b3_ =>
 f88c1 X L x j1_ b3_)) fun go2_ =>
 M.join (fun (j18_ : (Bool) × Unit) =>
 M.ite j18_.1
 (go2_ (r0_, ()))
 (go2_ (x.2.1, ()))) fun go19_ =>
 M.ite (ltB x.2.1 0)
 (go19_ (true, ()))
 (go19_ ((ltB r0_ x.2.1), ()))
def f88 (X : XT) (L : LoopI) (x : (ByteArray) × (Int) × Unit) : M Value :=
 f88c2 X L x

theorem e88 (X : XT) (L : LoopI) (x : (ByteArray) × (Int) × Unit) : evBody CC { call := X, loop := L } 88 (shsInj [(.cell .string), (.cell (.int .i64))] x) = f88 X L x := by kernel_rfl

/-- strings.Count -/
def f89c0 (X : XT) (L : LoopI) (x : (ByteArray) × (ByteArray) × Unit) : M (Value) :=
 M.bind (L (σ := (ByteArray) × (Int) × Unit) (ρ := ((Int) × Unit) ⊕ (Unit)) (fun s8_ =>
 M.callS (.one (.cell (.int .i64))) (X (.call 90 [(.string s8_.1), (.string x.2.1)])) fun (r9_ : Int) =>
 M.ite (eqB r9_ (-1))
 (M.pure (.inr (.inl (s8_.2.1, ()))))
 (let v13_ : Int := addW .i64 r9_ ((x.2.1.size : Nat) : Int)
 M.guard (upB v13_ s8_.1.size)
 (M.pure (.inl ((s8_.1.extract (Int.toNat v13_) s8_.1.size), (addW .i64 s8_.2.1 1), ()))))) (x.1, 0, ())) <| M.sum (fun (j16_ : (Int) × Unit) =>
 M.pure (.int .i64 j16_.1)) (fun _ => M.stuck)
def f89 (X : XT) (L : LoopI) (x : (ByteArray) × (ByteArray) × Unit) : M Value :=
 M.ite (eqB ((x.2.1.size : Nat) : Int) 0)
 (M.callS (.one (.cell (.int .i64))) (X (.call 103 [(.string x.1)])) fun (r2_ : Int) =>
 M.pure (.int .i64 (addW .i64 r2_ 1)))
 (M.ite (eqB ((x.2.1.size : Nat) : Int) 1)
 (M.guard (inB 0 x.2.1.size)
 (M.pure (.int .i64 ((Lib.countByte x.1.data.toList (Int.toNat (byteAt x.2.1 0)).toUInt8 : Nat) : Int))))
 (f89c0 X L x))

theorem e89 (X : XT) (L : LoopI) (x : (ByteArray) × (ByteArray) × Unit) : evBody CC { call := X, loop := L } 89 (shsInj [(.cell .string), (.cell .string)] x) = f89 X L x := by kernel_rfl

/-- strings.Index -/
def f90 (X : XT) (L : LoopI) (x : (ByteArray) × (ByteArray) × Unit) : M Value :=
 M.callS (.one (.cell (.int .i64))) (X (.call 83 [(.string x.1), (.string x.2.1)])) fun (r0_ : Int) =>
 M.pure (.int .i64 r0_)

theorem e90 (X : XT) (L : LoopI) (x : (ByteArray) × (ByteArray) × Unit) : evBody CC { call := X, loop := L } 90 (shsInj [(.cell .string), (.cell .string)] x) = f90 X L x := by kernel_rfl

/-- internal/strconv.small -/
def f91 (X : XT) (L : LoopI) (x : (Int) × Unit) : M Value :=
 M.ite (ltB x.1 10)
 (let v1_ : Int := addW .i64 x.1 1
 M.guard (upB v1_ st50.size)
 (let v2_ : Nat := (Int.toNat v1_)
 M.guard (upB x.1 v2_)
 (M.pure (.string (st50.extract (Int.toNat x.1) v2_)))))
 (let v5_ : Int := mulW .i64 x.1 2
 let v7_ : Int := addW .i64 (mulW .i64 x.1 2) 2
 M.guard (upB v7_ st51.size)
 (let v8_ : Nat := (Int.toNat v7_)
 M.guard (upB v5_ v8_)
 (M.pure (.string (st51.extract (Int.toNat v5_) v8_)))))

theorem e91 (X : XT) (L : LoopI) (x : (Int) × Unit) : evBody CC { call := X, loop := L } 91 (shsInj [(.cell (.int .i64))] x) = f91 X L x := by kernel_rfl

/-- internal/strconv.numDigits -/
def f92 (X : XT) (L : LoopI) (x : (Int) × Unit) : M Value :=
 M.callS (.one (.cell (.int .i64))) (X (.call 106 [(.int .u64 x.1)])) fun (r0_ : Int) =>
 M.callS (.one (.cell (.int .i64))) (X (.call 105 [(.int .i64 r0_)])) fun (r1_ : Int) =>
 M.guard (inB r1_ 20)
 (M.load (.cell (.int .u64)) 1 ((Addr.mk 3 0 none).add ((Int.toNat r1_) * 1)) fun (x2_ : Int) =>
 M.callS (.one (.cell (.int .i64))) (X (.call 107 [(.bool (leB x2_ x.1))])) fun (r4_ : Int) =>
 M.pure (.int .i64 (addW .i64 r1_ r4_)))

theorem e92 (X : XT) (L : LoopI) (x : (Int) × Unit) : evBody CC { call := X, loop := L } 92 (shsInj [(.cell (.int .u64))] x) = f92 X L x := by kernel_rfl

/-- internal/strconv.formatBase10 -/
def f93c0 (X : XT) (L : LoopI) (x : (SL) × (Int) × Unit) (s1_ : (Int) × (Int) × Unit) (v5_ : Int) (v13_ : Int) (v31_ : Int) (v34_ : Int) (a36_ : Addr) : M (((Int) × (Int) × Unit) ⊕ (((Int) × (Int) × Unit) ⊕ (Unit))) :=
 M.store (a36_.add ((Int.toNat v31_) * 1)) [(.int .u8 v34_)]
 (let v37_ : Int := subW .i64 s1_.2.1 7
 let v38_ : Int := subW .i64 s1_.2.1 8
 let v39_ : Int := addW .u32 v13_ 1
 M.guard (inB v39_ st51.size)
 (M.guard (inB v13_ st51.size)
 (M.guard (inB v37_ x.1.2.1)
 (M.deref x.1.1 fun a42_ =>
 M.store (a42_.add ((Int.toNat v37_) * 1)) [(.int .u8 (byteAt st51 v39_))]
 (M.guard (inB v38_ x.1.2.1)
 (M.deref x.1.1 fun a43_ =>
 M.store (a43_.add ((Int.toNat v38_) * 1)) [(.int .u8 (byteAt st51 v13_))]
 (M.pure (.inl (v5_, (subW .i64 s1_.2.1 8), ())))))))))
def f93c1 (X : XT) (L : LoopI) (x : (SL) × (Int) × Unit) (s1_ : (Int) × (Int) × Unit) (v5_ : Int) (v13_ : Int) (v15_ : Int) (v24_ : Int) (v27_ : Int) : M (((Int) × (Int) × Unit) ⊕ (((Int) × (Int) × Unit) ⊕ (Unit))) :=
 M.guard (inB v24_ x.1.2.1)
 (M.deref x.1.1 fun a29_ =>
 M.store (a29_.add ((Int.toNat v24_) * 1)) [(.int .u8 v27_)]
 (let v30_ : Int := subW .i64 s1_.2.1 5
 let v31_ : Int := subW .i64 s1_.2.1 6
 let v32_ : Int := addW .u32 v15_ 1
 M.guard (inB v32_ st51.size)
 (M.guard (inB v15_ st51.size)
 (M.guard (inB v30_ x.1.2.1)
 (M.deref x.1.1 fun a35_ =>
 M.store (a35_.add ((Int.toNat v30_) * 1)) [(.int .u8 (byteAt st51 v32_))]
 (M.guard (inB v31_ x.1.2.1)
 (M.deref x.1.1 fun a36_ =>
 f93c0 X L x s1_ v5_ v13_ v31_ (byteAt st51 v15_) a36_)))))))
def f93c2 (X : XT) (L : LoopI) (x : (SL) × (Int) × Unit) (s1_ : (Int) × (Int) × Unit) (v5_ : Int) (v9_ : Int) (v13_ : Int) (v15_ : Int) (v16_ : Int) (v17_ : Int) (v19_ : Int) (v20_ : Int) (a21_ : Addr) : M (((Int) × (Int) × Unit) ⊕ (((Int) × (Int) × Unit) ⊕ (Unit))) :=
 M.store (a21_.add ((Int.toNat v16_) * 1)) [(.int .u8 v19_)]
 (M.guard (inB v17_ x.1.2.1)
 (M.deref x.1.1 fun a22_ =>
 M.store (a22_.add ((Int.toNat v17_) * 1)) [(.int .u8 v20_)]
 (let v23_ : Int := subW .i64 s1_.2.1 3
 let v25_ : Int := addW .u32 v9_ 1
 M.guard (inB v25_ st51.size)
 (M.guard (inB v9_ st51.size)
 (M.guard (inB v23_ x.1.2.1)
 (M.deref x.1.1 fun a28_ =>
 M.store (a28_.add ((Int.toNat v23_) * 1)) [(.int .u8 (byteAt st51 v25_))]
 (f93c1 X L x s1_ v5_ v13_ v15_ (subW .i64 s1_.2.1 4) (byteAt st51 v9_))))))))
def f93c3 (X : XT) (L : LoopI) (x : (SL) × (Int) × Unit) (s1_ : (Int) × (Int) × Unit) (v5_ : Int) (v6_ : Int) (v7_ : Int) (v9_ : Int) : M (((Int) × (Int) × Unit) ⊕ (((Int) × (Int) × Unit) ⊕ (Unit))) :=
 M.guard (!(decide (100 = 0)))
 (let v11_ : Int := mulW .u32 ((v7_ : Int).tmod 100) 2
 M.guard (!(decide (100 = 0)))
 (M.guard (!(decide (100 = 0)))
 (let v16_ : Int := subW .i64 s1_.2.1 1
 let v18_ : Int := addW .u32 v11_ 1
 M.guard (inB v18_ st51.size)
 (M.guard (inB v11_ st51.size)
 (M.guard (inB v16_ x.1.2.1)
 (M.deref x.1.1 fun a21_ =>
 f93c2 X L x s1_ v5_ v9_ (mulW .u32 (IntKind.u32.wrap ((v6_ : Int).tdiv 100)) 2) (mulW .u32 ((v6_ : Int).tmod 100) 2) v16_ (subW .i64 s1_.2.1 2) (byteAt st51 v18_) (byteAt st51 v11_) a21_))))))
def f93c4 (X : XT) (L : LoopI) (x : (SL) × (Int) × Unit) (s1_ : (Int) × (Int) × Unit) : M (((Int) × (Int) × Unit) ⊕ (((Int) × (Int) × Unit) ⊕ (Unit))) :=
 M.ite (leB 8 s1_.2.1)
 (M.guard (!(decide (100000000 = 0)))
 (let v4_ : Int := wrapW .u32 ((s1_.1 : Int).tmod 100000000)
 M.guard (!(decide (100000000 = 0)))
 (M.guard (!(decide (10000 = 0)))
 (M.guard (!(decide (10000 = 0)))
 (let v7_ : Int := (v4_ : Int).tmod 10000
 M.guard (!(decide (100 = 0)))
 (f93c3 X L x s1_ (IntKind.u64.wrap ((s1_.1 : Int).tdiv 100000000)) (IntKind.u32.wrap ((v4_ : Int).tdiv 10000)) v7_ (mulW .u32 (IntKind.u32.wrap ((v7_ : Int).tdiv 100)) 2)))))))
 (M.pure (.inr (.inl (s1_.1, s1_.2.1, ()))))
def f93c5 (X : XT) (L : LoopI) (x : (SL) × (Int) × Unit) (j47_ : (Int) × (Int) × Unit) (go50_ : ((Int) × (Int) × Unit) → M (Value)) (v57_ : Int) : M (Value) :=
 M.guard (!(decide (100 = 0)))
 (let v59_ : Int := subW .i64 j47_.1 1
 let v60_ : Int := subW .i64 j47_.1 2
 let v61_ : Int := addW .u32 v57_ 1
 M.guard (inB v61_ st51.size)
 (M.guard (inB v57_ st51.size)
 (M.guard (inB v59_ x.1.2.1)
 (M.deref x.1.1 fun a64_ =>
 M.store (a64_.add ((Int.toNat v59_) * 1)) [(.int .u8 (byteAt st51 v61_))]
 (M.guard (inB v60_ x.1.2.1)
 (M.deref x.1.1 fun a65_ =>
 M.store (a65_.add ((Int.toNat v60_) * 1)) [(.int .u8 (byteAt st51 v57_))]
 (go50_ ((subW .i64 j47_.1 2), (IntKind.u32.wrap ((j47_.2.1 : Int).tdiv 100)), ()))))))))
def f93c6 (X : XT) (L : LoopI) (x : (SL) × (Int) × Unit) (j45_ : (Int) × (Int) × Unit) (go48_ : ((Int) × (Int) × Unit) → M (Value)) (v69_ : Int) (v71_ : Int) (v75_ : Int) (v78_ : Int) (a80_ : Addr) : M (Value) :=
 M.store (a80_.add ((Int.toNat v75_) * 1)) [(.int .u8 v78_)]
 (let v81_ : Int := subW .i64 j45_.2.1 3
 let v82_ : Int := subW .i64 j45_.2.1 4
 let v83_ : Int := addW .u32 v71_ 1
 M.guard (inB v83_ st51.size)
 (M.guard (inB v71_ st51.size)
 (M.guard (inB v81_ x.1.2.1)
 (M.deref x.1.1 fun a86_ =>
 M.store (a86_.add ((Int.toNat v81_) * 1)) [(.int .u8 (byteAt st51 v83_))]
 (M.guard (inB v82_ x.1.2.1)
 (M.deref x.1.1 fun a87_ =>
 M.store (a87_.add ((Int.toNat v82_) * 1)) [(.int .u8 (byteAt st51 v71_))]
 (go48_ ((subW .i64 j45_.2.1 4), v69_, ()))))))))
def f93c7 (X : XT) (L : LoopI) (x : (SL) × (Int) × Unit) (j45_ : (Int) × (Int) × Unit) (go48_ : ((Int) × (Int) × Unit) → M (Value)) (v68_ : Int) (v69_ : Int) (v71_ : Int) : M (Value) :=
 M.guard (!(decide (100 = 0)))
 (let v73_ : Int := mulW .u32 ((v68_ : Int).tmod 100) 2
 let v74_ : Int := subW .i64 j45_.2.1 1
 let v75_ : Int := subW .i64 j45_.2.1 2
 let v76_ : Int := addW .u32 v73_ 1
 M.guard (inB v76_ st51.size)
 (M.guard (inB v73_ st51.size)
 (M.guard (inB v74_ x.1.2.1)
 (M.deref x.1.1 fun a79_ =>
 M.store (a79_.add ((Int.toNat v74_) * 1)) [(.int .u8 (byteAt st51 v76_))]
 (M.guard (inB v75_ x.1.2.1)
 (M.deref x.1.1 fun a80_ =>
 f93c6 X L x j45_ go48_ v69_ v71_ v75_ (byteAt st51 v73_) a80_))))))
def f93c8 (X : XT) (L : LoopI) (x : (SL) × (Int) × Unit) (j45_ : (Int) × (Int) × Unit) (v46_ : Int) : M (Value) :=
 M.join (fun (j47_ : (Int) × (Int) × Unit) =>
 M.join (fun (j49_ : (Int) × (Int) × Unit) =>
 M.ite (ltB 0 j49_.1)
 (M.guard (inB 0 x.1.2.1)
 (M.deref x.1.1 fun a54_ =>
 M.store (a54_.add ((Int.toNat 0) * 1)) [(.int .u8 (wrapW .u8 (addW .u32 48 j49_.2.1)))]
 (M.pure (.tuple ⟨[]⟩))))
 (M.pure (.tuple ⟨[]⟩))) fun go50_ =>
 M.ite (leB 2 j47_.1)
 (M.guard (!(decide (100 = 0)))
 (f93c5 X L x j47_ go50_ (mulW .u32 ((j47_.2.1 : Int).tmod 100) 2)))
 (go50_ (j47_.1, j47_.2.1, ()))) fun go48_ =>
 M.ite (leB 4 j45_.2.1)
 (M.guard (!(decide (10000 = 0)))
 (let v68_ : Int := (v46_ : Int).tmod 10000
 M.guard (!(decide (10000 = 0)))
 (M.guard (!(decide (100 = 0)))
 (f93c7 X L x j45_ go48_ v68_ (IntKind.u32.wrap ((v46_ : Int).tdiv 10000)) (mulW .u32 (IntKind.u32.wrap ((v68_ : Int).tdiv 100)) 2)))))
 (go48_ (j45_.2.1, v46_, ()))
def f93 (X : XT) (L : LoopI) (x : (SL) × (Int) × Unit) : M Value :=
 M.bind (L (σ := (Int) × (Int) × Unit) (ρ := ((Int) × (Int) × Unit) ⊕ (Unit)) (fun s1_ =>
 f93c4 X L x s1_) (x.2.1, ((x.1.2.1 : Nat) : Int), ())) <| M.sum (fun (j45_ : (Int) × (Int) × Unit) =>
 f93c8 X L x j45_ (wrapW .u32 j45_.1)) (fun _ => M.stuck)

theorem e93 (X : XT) (L : LoopI) (x : (SL) × (Int) × Unit) : evBody CC { call := X, loop := L } 93 (shsInj [(.cell .slice), (.cell (.int .u64))] x) = f93 X L x := by kernel_rfl

/-- internal/strconv.formatBits -/
def f94c0 (X : XT) (L : LoopI) (x : (SL) × (Int) × (Int) × (Bool) × (Bool) × Unit) (b2_ : Nat) (j5_ : (Int) × Unit) : M (Value) :=
 M.join (fun (j7_ : (Int) × Unit) =>
 M.ite x.2.2.2.2.1
 (M.guard (upB j7_.1 65)
 (let v9_ : Nat := (Int.toNat j7_.1)
 M.append 5 1 1 x.1.1 x.1.2.1 x.1.2.2 (.slice (some ((Addr.mk b2_ 0 none).add (v9_ * 1))) (65 - v9_) (65 - v9_)) fun a10_ n11_ c12_ =>
 M.pure (.tuple ⟨[(.slice a10_ n11_ c12_), (.string st0)]⟩)))
 (M.guard (upB j7_.1 65)
 (let v13_ : Nat := (Int.toNat j7_.1)
 M.toStr (some ((Addr.mk b2_ 0 none).add (v13_ * 1))) (65 - v13_) fun s14_ =>
 M.pure (.tuple ⟨[(.slice none 0 0), (.string s14_)]⟩)))) fun go8_ =>
 M.ite x.2.2.2.1
 (let v15_ : Int := subW .i64 j5_.1 1
 M.guard (inB v15_ 65)
 (M.store ((Addr.mk b2_ 0 none).add ((Int.toNat v15_) * 1)) [(.int .u8 45)]
 (go8_ (v15_, ()))))
 (go8_ (j5_.1, ()))
def f94c1 (X : XT) (L : LoopI) (b2_ : Nat) (j3_ : (Int) × Unit) (go6_ : ((Int) × Unit) → M (Value)) (v19_ : Int) (v20_ : Int) (v22_ : Int) : M (Value) :=
 M.bind (L (σ := (Int) × (Int) × Unit) (ρ := ((Int) × (Int) × Unit) ⊕ (Unit)) (fun s23_ =>
 M.ite (leB v20_ s23_.1)
 (let v25_ : Int := subW .i64 s23_.2.1 1
 let v26_ : Int := andW .u64 s23_.1 v22_
 M.guard (inB v26_ st50.size)
 (M.guard (inB v25_ 65)
 (M.store ((Addr.mk b2_ 0 none).add ((Int.toNat v25_) * 1)) [(.int .u8 (byteAt st50 v26_))]
 (M.guard (decide (0 ≤ v19_))
 (M.pure (.inl ((((s23_.1 : Int)).fdiv (2 ^ (min (Int.toNat v19_) IntKind.u64.bits))), v25_, ())))))))
 (M.pure (.inr (.inl (s23_.1, s23_.2.1, ()))))) (j3_.1, 65, ())) <| M.sum (fun (j29_ : (Int) × (Int) × Unit) =>
 let v30_ : Int := subW .i64 j29_.2.1 1
 M.guard (inB j29_.1 st50.size)
 (M.guard (inB v30_ 65)
 (M.store ((Addr.mk b2_ 0 none).add ((Int.toNat v30_) * 1)) [(.int .u8 (byteAt st50 j29_.1))]
 (go6_ (v30_, ()))))) (fun _ => M.stuck)
def f94c2 (X : XT) (L : LoopI) (b2_ : Nat) (j3_ : (Int) × Unit) (go6_ : ((Int) × Unit) → M (Value)) (v32_ : Int) : M (Value) :=
 M.bind (L (σ := (Int) × (Int) × Unit) (ρ := ((Int) × (Int) × Unit) ⊕ (Unit)) (fun s33_ =>
 M.ite (leB v32_ s33_.1)
 (let v35_ : Int := subW .i64 s33_.2.1 1
 M.guard (!(decide (v32_ = 0)))
 (let v36_ : Int := IntKind.u64.wrap ((s33_.1 : Int).tdiv v32_)
 let v38_ : Int := subW .u64 s33_.1 (mulW .u64 v36_ v32_)
 M.guard (inB v38_ st50.size)
 (M.guard (inB v35_ 65)
 (M.store ((Addr.mk b2_ 0 none).add ((Int.toNat v35_) * 1)) [(.int .u8 (byteAt st50 v38_))]
 (M.pure (.inl (v36_, v35_, ())))))))
 (M.pure (.inr (.inl (s33_.1, s33_.2.1, ()))))) (j3_.1, 65, ())) <| M.sum (fun (j40_ : (Int) × (Int) × Unit) =>
 let v41_ : Int := subW .i64 j40_.2.1 1
 M.guard (inB j40_.1 st50.size)
 (M.guard (inB v41_ 65)
 (M.store ((Addr.mk b2_ 0 none).add ((Int.toNat v41_) * 1)) [(.int .u8 (byteAt st50 j40_.1))]
 (go6_ (v41_, ()))))) (fun _ => M.stuck)
def f94c3 (X : XT) (L : LoopI) (x : (SL) × (Int) × (Int) × (Bool) × (Bool) × Unit) (b2_ : Nat) : M (Value) :=
 M.join (fun (j3_ : (Int) × Unit) =>
 M.join (fun (j5_ : (Int) × Unit) =>
 f94c0 X L x b2_ j5_) fun go6_ =>
 M.callS (.one (.cell .bool)) (X (.call 108 [(.int .i64 x.2.2.1)])) fun (r16_ : Bool) =>
 M.ite r16_
 (M.callS (.one (.cell (.int .i64))) (X (.call 109 [(.int .u64 (wrapW .u64 x.2.2.1))])) fun (r18_ : Int) =>
 f94c1 X L b2_ j3_ go6_ (wrapW .u64 r18_) (wrapW .u64 x.2.2.1) (subW .u64 (wrapW .u64 x.2.2.1) 1))
 (f94c2 X L b2_ j3_ go6_ (wrapW .u64 x.2.2.1))) fun go4_ =>
 M.ite x.2.2.2.1
 (go4_ ((IntKind.u64.wrap (0 - x.2.1)), ()))
 (go4_ (x.2.1, ()))
def f94 (X : XT) (L : LoopI) (x : (SL) × (Int) × (Int) × (Bool) × (Bool) × Unit) : M Value :=
 M.join (fun (j0_ : Unit) =>
 M.new (.cells (Row.ofList (zc 153)) 153 false (0, 0) false) fun b2_ =>
 f94c3 X L x b2_) fun go1_ =>
 M.join (fun (j44_ : (Bool) × Unit) =>
 M.ite j44_.1
 (M.throw (.iface 9 (.string st52)))
 (go1_ (()))) fun go45_ =>
 M.ite (ltB x.2.2.1 2)
 (go45_ (true, ()))
 (M.ite (eqB x.2.2.1 10)
 (go45_ (true, ()))
 (go45_ ((ltB 36 x.2.2.1), ())))

theorem e94 (X : XT) (L : LoopI) (x : (SL) × (Int) × (Int) × (Bool) × (Bool) × Unit) : evBody CC { call := X, loop := L } 94 (shsInj [(.cell .slice), (.cell (.int .u64)), (.cell (.int .i64)), (.cell .bool), (.cell .bool)] x) = f94 X L x := by kernel_rfl

/-- internal/bytealg.Cutover -/
def f96 (X : XT) (L : LoopI) (x : (Int) × Unit) : M Value :=
 M.guard (!(decide (8 = 0)))
 (M.pure (.int .i64 (IntKind.i64.wrap (((addW .i64 x.1 16) : Int).tdiv 8))))

theorem e96 (X : XT) (L : LoopI) (x : (Int) × Unit) : evBody CC { call := X, loop := L } 96 (shsInj [(.cell (.int .i64))] x) = f96 X L x := by kernel_rfl

/-- internal/strconv.log10Pow2 -/
def f105 (X : XT) (L : LoopI) (x : (Int) × Unit) : M Value :=
 M.guard (decide (0 ≤ 18))
 (M.pure (.int .i64 ((((mulW .i64 x.1 78913) : Int)).fdiv (2 ^ (min (Int.toNat 18) IntKind.i64.bits)))))

theorem e105 (X : XT) (L : LoopI) (x : (Int) × Unit) : evBody CC { call := X, loop := L } 105 (shsInj [(.cell (.int .i64))] x) = f105 X L x := by kernel_rfl

/-- math/bits.Len64 -/
def f106c0 (X : XT) (L : LoopI) (j0_ : (Int) × (Int) × Unit) : M (Value) :=
 M.join (fun (j2_ : (Int) × (Int) × Unit) =>
 M.join (fun (j4_ : (Int) × (Int) × Unit) =>
 let v6_ : Int := wrapW .u8 j4_.1
 M.guard (inB v6_ st53.size)
 (M.pure (.int .i64 (addW .i64 j4_.2.1 (wrapW .i64 (byteAt st53 v6_)))))) fun go5_ =>
 M.ite (leB 256 j2_.1)
 (M.guard (decide (0 ≤ 8))
 (go5_ ((((j2_.1 : Int)).fdiv (2 ^ (min (Int.toNat 8) IntKind.u64.bits))), (addW .i64 j2_.2.1 8), ())))
 (go5_ (j2_.1, j2_.2.1, ()))) fun go3_ =>
 M.ite (leB 65536 j0_.1)
 (M.guard (decide (0 ≤ 16))
 (go3_ ((((j0_.1 : Int)).fdiv (2 ^ (min (Int.toNat 16) IntKind.u64.bits))), (addW .i64 j0_.2.1 16), ())))
 (go3_ (j0_.1, j0_.2.1, ()))
def f106 (X : XT) (L : LoopI) (x : (Int) × Unit) : M Value :=
 M.join (fun (j0_ : (Int) × (Int) × Unit) =>
 f106c0 X L j0_) fun go1_ =>
 M.ite (leB 4294967296 x.1)
 (M.guard (decide (0 ≤ 32))
 (go1_ ((((x.1 : Int)).fdiv (2 ^ (min (Int.toNat 32) IntKind.u64.bits))), 32, ())))
 (go1_ (x.1, 0, ()))

theorem e106 (X : XT) (L : LoopI) (x : (Int) × Unit) : evBody CC { call := X, loop := L } 106 (shsInj [(.cell (.int .u64))] x) = f106 X L x := by kernel_rfl

end
end Go.Proofs.YtlcigkdflbfdgaaGreatDoor.sg
