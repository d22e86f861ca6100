/-
 What the functions come to, part 2: each text, and that the reading gives it.
-/
import Derived.Test.YtlcigkdflbfdgaaGreatDoorSgH
import Derived.KernelRfl
set_option linter.unusedVariables false
namespace Go.Proofs.YtlcigkdflbfdgaaGreatDoor.sg
open Go Go.Eng
noncomputable section
/-- hayrick/hayrickref30.Row -/
def f32c0 (X : XT) (L : LoopI) (b0_ : Nat) (j8_ : (Bool) × Unit) : M (Value) :=
 M.load (.agg [(.int .i64), (.int .i64), .bool, .slice, (.int .i64), (.int .i64), (.int .i64), (.int .i64), .slice]) 9 (Addr.mk b0_ 0 none) fun (x10_ : Int × Int × Bool × SL × Int × Int × Int × Int × SL × Unit) =>
 M.pure (.tuple ⟨[(.agg ⟨[(.int .i64 x10_.1), (.int .i64 x10_.2.1), (.bool x10_.2.2.1), (.slice x10_.2.2.2.1.1 x10_.2.2.2.1.2.1 x10_.2.2.2.1.2.2), (.int .i64 x10_.2.2.2.2.1), (.int .i64 x10_.2.2.2.2.2.1), (.int .i64 x10_.2.2.2.2.2.2.1), (.int .i64 x10_.2.2.2.2.2.2.2.1), (.slice x10_.2.2.2.2.2.2.2.2.1.1 x10_.2.2.2.2.2.2.2.2.1.2.1 x10_.2.2.2.2.2.2.2.2.1.2.2)]⟩), (.bool j8_.1)]⟩)
def f32c1 (X : XT) (L : LoopI) (b0_ : Nat) (b3_ : Nat) (go9_ : ((Bool) × Unit) → M (Value)) (x11_ : Int × Int × Bool × SL × Int × Int × Int × Int × SL × Unit) (x16_ : Int) (v17_ : Bool) : M (Value) :=
 M.store (Addr.mk b0_ 0 none) [(.int .i64 x11_.1), (.int .i64 x11_.2.1), (.bool x11_.2.2.1), (.slice x11_.2.2.2.1.1 x11_.2.2.2.1.2.1 x11_.2.2.2.1.2.2), (.int .i64 x11_.2.2.2.2.1), (.int .i64 x11_.2.2.2.2.2.1), (.int .i64 x11_.2.2.2.2.2.2.1), (.int .i64 x11_.2.2.2.2.2.2.2.1), (.slice x11_.2.2.2.2.2.2.2.2.1.1 x11_.2.2.2.2.2.2.2.2.1.2.1 x11_.2.2.2.2.2.2.2.2.1.2.2)]
 (M.load (.cell (.int .i64)) 1 ((Addr.mk b3_ 0 none).add 1) fun (x18_ : Int) => cond (veqv (.int .i64 x18_) (.int .i64 x16_)) (go9_ (v17_, ())) M.stuck)
def f32c2 (X : XT) (L : LoopI) (b0_ : Nat) (b3_ : Nat) (go9_ : ((Bool) × Unit) → M (Value)) (x11_ : Int × Int × Bool × SL × Int × Int × Int × Int × SL × Unit) (v15_ : Bool) : M (Value) :=
 M.ite v15_
 (M.load (.cell (.int .i64)) 1 ((Addr.mk b3_ 0 none).add 1) fun (x16_ : Int) =>
 f32c1 X L b0_ b3_ go9_ x11_ x16_ (!(eqB x16_ 0)))
 (M.store (Addr.mk b0_ 0 none) [(.int .i64 x11_.1), (.int .i64 x11_.2.1), (.bool x11_.2.2.1), (.slice x11_.2.2.2.1.1 x11_.2.2.2.1.2.1 x11_.2.2.2.1.2.2), (.int .i64 x11_.2.2.2.2.1), (.int .i64 x11_.2.2.2.2.2.1), (.int .i64 x11_.2.2.2.2.2.2.1), (.int .i64 x11_.2.2.2.2.2.2.2.1), (.slice x11_.2.2.2.2.2.2.2.2.1.1 x11_.2.2.2.2.2.2.2.2.1.2.1 x11_.2.2.2.2.2.2.2.2.1.2.2)]
 (go9_ (false, ())))
def f32c3 (X : XT) (L : LoopI) (b0_ : Nat) (b1_ : Nat) (b3_ : Nat) (go9_ : ((Bool) × Unit) → M (Value)) (x11_ : Int × Int × Bool × SL × Int × Int × Int × Int × SL × Unit) (v13_ : Bool) : M (Value) :=
 M.ite v13_
 (M.load (.cell .string) 1 ((Addr.mk b1_ 0 none).add 0) fun (x14_ : ByteArray) =>
 f32c2 X L b0_ b3_ go9_ x11_ (seq x14_ st0))
 (M.store (Addr.mk b0_ 0 none) [(.int .i64 x11_.1), (.int .i64 x11_.2.1), (.bool x11_.2.2.1), (.slice x11_.2.2.2.1.1 x11_.2.2.2.1.2.1 x11_.2.2.2.1.2.2), (.int .i64 x11_.2.2.2.2.1), (.int .i64 x11_.2.2.2.2.2.1), (.int .i64 x11_.2.2.2.2.2.2.1), (.int .i64 x11_.2.2.2.2.2.2.2.1), (.slice x11_.2.2.2.2.2.2.2.2.1.1 x11_.2.2.2.2.2.2.2.2.1.2.1 x11_.2.2.2.2.2.2.2.2.1.2.2)]
 (go9_ (false, ())))
def f32c4 (X : XT) (L : LoopI) (b0_ : Nat) (b1_ : Nat) (b3_ : Nat) : M (Value) :=
 M.callS (.one (.cell (.int .i64))) (X (.call 57 [(.pointer (some (Addr.mk b1_ 0 none)))])) fun (r7_ : Int) =>
 M.store ((Addr.mk b3_ 0 none).add 1) [(.int .i64 r7_)]
 (M.join (fun (j8_ : (Bool) × Unit) =>
 f32c0 X L b0_ j8_) fun go9_ =>
 M.load (.agg [(.int .i64), (.int .i64), .bool, .slice, (.int .i64), (.int .i64), (.int .i64), (.int .i64), .slice]) 9 (Addr.mk b3_ 0 none) fun (x11_ : Int × Int × Bool × SL × Int × Int × Int × Int × SL × Unit) =>
 M.load (.cell .bool) 1 ((Addr.mk b1_ 0 none).add 1) fun (x12_ : Bool) =>
 f32c3 X L b0_ b1_ b3_ go9_ x11_ (!x12_))
def f32c5 (X : XT) (L : LoopI) (b0_ : Nat) : M (Value) :=
 M.load (.agg [(.int .i64), (.int .i64), .bool, .slice, (.int .i64), (.int .i64), (.int .i64), (.int .i64), .slice]) 9 (Addr.mk b0_ 0 none) fun (x22_ : Int × Int × Bool × SL × Int × Int × Int × Int × SL × Unit) =>
 M.pure (.tuple ⟨[(.agg ⟨[(.int .i64 x22_.1), (.int .i64 x22_.2.1), (.bool x22_.2.2.1), (.slice x22_.2.2.2.1.1 x22_.2.2.2.1.2.1 x22_.2.2.2.1.2.2), (.int .i64 x22_.2.2.2.2.1), (.int .i64 x22_.2.2.2.2.2.1), (.int .i64 x22_.2.2.2.2.2.2.1), (.int .i64 x22_.2.2.2.2.2.2.2.1), (.slice x22_.2.2.2.2.2.2.2.2.1.1 x22_.2.2.2.2.2.2.2.2.1.2.1 x22_.2.2.2.2.2.2.2.2.1.2.2)]⟩), (.bool false)]⟩)
def f32c6 (X : XT) (L : LoopI) (b0_ : Nat) (b3_ : Nat) : M (Value) :=
 M.load (.agg [(.int .i64), (.int .i64), .bool, .slice, (.int .i64), (.int .i64), (.int .i64), (.int .i64), .slice]) 9 (Addr.mk b3_ 0 none) fun (x21_ : Int × Int × Bool × SL × Int × Int × Int × Int × SL × Unit) =>
 M.store (Addr.mk b0_ 0 none) [(.int .i64 x21_.1), (.int .i64 x21_.2.1), (.bool x21_.2.2.1), (.slice x21_.2.2.2.1.1 x21_.2.2.2.1.2.1 x21_.2.2.2.1.2.2), (.int .i64 x21_.2.2.2.2.1), (.int .i64 x21_.2.2.2.2.2.1), (.int .i64 x21_.2.2.2.2.2.2.1), (.int .i64 x21_.2.2.2.2.2.2.2.1), (.slice x21_.2.2.2.2.2.2.2.2.1.1 x21_.2.2.2.2.2.2.2.2.1.2.1 x21_.2.2.2.2.2.2.2.2.1.2.2)]
 (f32c5 X L b0_)
def f32c7 (X : XT) (L : LoopI) (b0_ : Nat) (j26_ : (Bool) × Unit) : M (Value) :=
 M.load (.agg [(.int .i64), (.int .i64), .bool, .slice, (.int .i64), (.int .i64), (.int .i64), (.int .i64), .slice]) 9 (Addr.mk b0_ 0 none) fun (x28_ : Int × Int × Bool × SL × Int × Int × Int × Int × SL × Unit) =>
 M.pure (.tuple ⟨[(.agg ⟨[(.int .i64 x28_.1), (.int .i64 x28_.2.1), (.bool x28_.2.2.1), (.slice x28_.2.2.2.1.1 x28_.2.2.2.1.2.1 x28_.2.2.2.1.2.2), (.int .i64 x28_.2.2.2.2.1), (.int .i64 x28_.2.2.2.2.2.1), (.int .i64 x28_.2.2.2.2.2.2.1), (.int .i64 x28_.2.2.2.2.2.2.2.1), (.slice x28_.2.2.2.2.2.2.2.2.1.1 x28_.2.2.2.2.2.2.2.2.1.2.1 x28_.2.2.2.2.2.2.2.2.1.2.2)]⟩), (.bool j26_.1)]⟩)
def f32c8 (X : XT) (L : LoopI) (b0_ : Nat) (b1_ : Nat) (go27_ : ((Bool) × Unit) → M (Value)) (x29_ : Int × Int × Bool × SL × Int × Int × Int × Int × SL × Unit) (x32_ : ByteArray) (v33_ : Bool) : M (Value) :=
 M.store (Addr.mk b0_ 0 none) [(.int .i64 x29_.1), (.int .i64 x29_.2.1), (.bool x29_.2.2.1), (.slice x29_.2.2.2.1.1 x29_.2.2.2.1.2.1 x29_.2.2.2.1.2.2), (.int .i64 x29_.2.2.2.2.1), (.int .i64 x29_.2.2.2.2.2.1), (.int .i64 x29_.2.2.2.2.2.2.1), (.int .i64 x29_.2.2.2.2.2.2.2.1), (.slice x29_.2.2.2.2.2.2.2.2.1.1 x29_.2.2.2.2.2.2.2.2.1.2.1 x29_.2.2.2.2.2.2.2.2.1.2.2)]
 (M.load (.cell .string) 1 ((Addr.mk b1_ 0 none).add 0) fun (x34_ : ByteArray) => cond (veqv (.string x34_) (.string x32_)) (go27_ (v33_, ())) M.stuck)
def f32c9 (X : XT) (L : LoopI) (b0_ : Nat) (b1_ : Nat) (go27_ : ((Bool) × Unit) → M (Value)) (x29_ : Int × Int × Bool × SL × Int × Int × Int × Int × SL × Unit) (v31_ : Bool) : M (Value) :=
 M.ite v31_
 (M.load (.cell .string) 1 ((Addr.mk b1_ 0 none).add 0) fun (x32_ : ByteArray) =>
 f32c8 X L b0_ b1_ go27_ x29_ x32_ (seq x32_ st0))
 (M.store (Addr.mk b0_ 0 none) [(.int .i64 x29_.1), (.int .i64 x29_.2.1), (.bool x29_.2.2.1), (.slice x29_.2.2.2.1.1 x29_.2.2.2.1.2.1 x29_.2.2.2.1.2.2), (.int .i64 x29_.2.2.2.2.1), (.int .i64 x29_.2.2.2.2.2.1), (.int .i64 x29_.2.2.2.2.2.2.1), (.int .i64 x29_.2.2.2.2.2.2.2.1), (.slice x29_.2.2.2.2.2.2.2.2.1.1 x29_.2.2.2.2.2.2.2.2.1.2.1 x29_.2.2.2.2.2.2.2.2.1.2.2)]
 (go27_ (false, ())))
def f32c10 (X : XT) (L : LoopI) (b1_ : Nat) (b3_ : Nat) (go25_ : (Unit) → M (Value)) : M (Value) :=
 M.callS (.one (.cell (.int .i64))) (X (.call 57 [(.pointer (some (Addr.mk b1_ 0 none)))])) fun (r42_ : Int) =>
 M.store (((Addr.mk b3_ 0 none).add 4).add 1) [(.int .i64 r42_)]
 (M.callS (.one (.cell (.int .i64))) (X (.call 57 [(.pointer (some (Addr.mk b1_ 0 none)))])) fun (r43_ : Int) =>
 M.store (((Addr.mk b3_ 0 none).add 4).add 2) [(.int .i64 r43_)]
 (M.callS (.one (.cell (.int .i64))) (X (.call 57 [(.pointer (some (Addr.mk b1_ 0 none)))])) fun (r44_ : Int) =>
 M.store (((Addr.mk b3_ 0 none).add 4).add 3) [(.int .i64 r44_)]
 (go25_ (()))))
def f32c11 (X : XT) (L : LoopI) (b1_ : Nat) (b3_ : Nat) (r49_ : Int) (x50_ : SL) : M ((Unit) ⊕ ((Unit) ⊕ (Unit))) :=
 M.callS (.one (.cell .string)) (X (.call 56 [(.pointer (some (Addr.mk b1_ 0 none)))])) fun (r51_ : ByteArray) =>
 M.load (.cell .slice) 1 ((Addr.mk b3_ 0 none).add 8) fun (x52_ : SL) => cond (veqv (.slice x52_.1 x52_.2.1 x52_.2.2) (.slice x50_.1 x50_.2.1 x50_.2.2)) (M.new (.cells (Row.ofList [(.int .i64 r49_), (.string r51_)]) 71 false (0, 0) false) fun b53_ =>
 M.append 71 2 24 x50_.1 x50_.2.1 x50_.2.2 (.slice (some (Addr.mk b53_ 0 none)) 1 1) fun a54_ n55_ c56_ =>
 M.store ((Addr.mk b3_ 0 none).add 8) [(.slice a54_ n55_ c56_)]
 (M.pure (.inl (())))) M.stuck
def f32c12 (X : XT) (L : LoopI) (b1_ : Nat) (b3_ : Nat) : M ((Unit) ⊕ ((Unit) ⊕ (Unit))) :=
 M.join (fun (j47_ : (Bool) × Unit) =>
 M.ite j47_.1
 (M.callS (.one (.cell (.int .i64))) (X (.call 57 [(.pointer (some (Addr.mk b1_ 0 none)))])) fun (r49_ : Int) =>
 M.load (.cell .slice) 1 ((Addr.mk b3_ 0 none).add 8) fun (x50_ : SL) =>
 f32c11 X L b1_ b3_ r49_ x50_)
 (M.pure (.inr (.inl (()))))) fun go48_ =>
 M.load (.cell .string) 1 ((Addr.mk b1_ 0 none).add 0) fun (x57_ : ByteArray) =>
 M.ite (!(seq x57_ st0))
 (M.load (.cell .bool) 1 ((Addr.mk b1_ 0 none).add 1) fun (x59_ : Bool) =>
 go48_ ((!x59_), ()))
 (go48_ (false, ()))
def f32c13 (X : XT) (L : LoopI) (b1_ : Nat) (b3_ : Nat) (go25_ : (Unit) → M (Value)) : M (Value) :=
 M.callS (.tuple []) (X (.call 66 [(.pointer (some (Addr.mk b1_ 0 none)))])) fun (r64_ : Unit) =>
 M.callS (.one (.cell .string)) (X (.call 67 [(.pointer (some (Addr.mk b1_ 0 none)))])) fun (r65_ : ByteArray) =>
 M.store ((Addr.mk b3_ 0 none).add 2) [(.bool (seq r65_ st23))]
 (M.join (fun (j67_ : (Bool) × Unit) =>
 M.ite j67_.1
 (M.store ((Addr.mk b1_ 0 none).add 1) [(.bool true)]
 (go25_ (())))
 (go25_ (()))) fun go68_ =>
 M.load (.cell .bool) 1 ((Addr.mk b3_ 0 none).add 2) fun (x69_ : Bool) =>
 M.ite (!x69_)
 (go68_ ((!(seq r65_ st24)), ()))
 (go68_ (false, ())))
def f32c14 (X : XT) (L : LoopI) (b1_ : Nat) (b3_ : Nat) (x23_ : Int) (go25_ : (Unit) → M (Value)) (v40_ : Bool) : M (Value) :=
 M.ite v40_
 (M.callS (.one (.cell (.int .i64))) (X (.call 57 [(.pointer (some (Addr.mk b1_ 0 none)))])) fun (r41_ : Int) =>
 M.store (((Addr.mk b3_ 0 none).add 4).add 0) [(.int .i64 r41_)]
 (f32c10 X L b1_ b3_ go25_))
 (M.ite (eqB x23_ 11)
 (M.bind (L (σ := Unit) (ρ := (Unit) ⊕ (Unit)) (fun s46_ =>
 f32c12 X L b1_ b3_) (())) <| M.sum (fun (j61_ : Unit) =>
 go25_ (())) (fun _ => M.stuck))
 (M.join (fun (j62_ : (Bool) × Unit) =>
 M.ite j62_.1
 (f32c13 X L b1_ b3_ go25_)
 (go25_ (()))) fun go63_ =>
 M.ite (eqB x23_ 15)
 (go63_ (true, ()))
 (go63_ ((eqB x23_ 16), ()))))
def f32c15 (X : XT) (L : LoopI) (b0_ : Nat) (b1_ : Nat) (b3_ : Nat) (x23_ : Int) : M (Value) :=
 M.join (fun (j24_ : Unit) =>
 M.join (fun (j26_ : (Bool) × Unit) =>
 f32c7 X L b0_ j26_) fun go27_ =>
 M.load (.agg [(.int .i64), (.int .i64), .bool, .slice, (.int .i64), (.int .i64), (.int .i64), (.int .i64), .slice]) 9 (Addr.mk b3_ 0 none) fun (x29_ : Int × Int × Bool × SL × Int × Int × Int × Int × SL × Unit) =>
 M.load (.cell .bool) 1 ((Addr.mk b1_ 0 none).add 1) fun (x30_ : Bool) =>
 f32c9 X L b0_ b1_ go27_ x29_ (!x30_)) fun go25_ =>
 M.ite (eqB x23_ 7)
 (M.callS (.one (.cell .string)) (X (.call 56 [(.pointer (some (Addr.mk b1_ 0 none)))])) fun (r36_ : ByteArray) =>
 M.ofStr 5 r36_ fun a37_ n38_ c39_ =>
 M.store ((Addr.mk b3_ 0 none).add 3) [(.slice a37_ n38_ c39_)]
 (go25_ (())))
 (f32c14 X L b1_ b3_ x23_ go25_ (eqB x23_ 10))
def f32c16 (X : XT) (L : LoopI) (b0_ : Nat) (b1_ : Nat) (b3_ : Nat) : M (Value) :=
 M.callS (.tuple []) (X (.call 66 [(.pointer (some (Addr.mk b1_ 0 none)))])) fun (r4_ : Unit) =>
 M.callS (.one (.cell .string)) (X (.call 67 [(.pointer (some (Addr.mk b1_ 0 none)))])) fun (r5_ : ByteArray) =>
 M.ite (seq r5_ st21)
 (f32c4 X L b0_ b1_ b3_)
 (M.join (fun (j19_ : (Bool) × Unit) =>
 M.ite j19_.1
 (f32c6 X L b0_ b3_)
 (M.load (.cell (.int .i64)) 1 ((Addr.mk b3_ 0 none).add 0) fun (x23_ : Int) =>
 f32c15 X L b0_ b1_ b3_ x23_)) fun go20_ =>
 M.ite (!(seq r5_ st22))
 (go20_ (true, ()))
 (M.load (.cell .bool) 1 ((Addr.mk b1_ 0 none).add 1) fun (x75_ : Bool) =>
 go20_ (x75_, ())))
def f32c17 (X : XT) (L : LoopI) (b0_ : Nat) (b1_ : Nat) : M (Value) :=
 M.callS (.one (.cell (.int .i64))) (X (.call 55 [(.pointer (some (Addr.mk b1_ 0 none)))])) fun (r2_ : Int) =>
 M.new (.cells (Row.ofList [(.int .i64 0), (.int .i64 0), (.bool false), (.slice none 0 0), (.int .i64 0), (.int .i64 0), (.int .i64 0), (.int .i64 0), (.slice none 0 0)]) 77 false (0, 0) false) fun b3_ =>
 M.store (Addr.mk b3_ 0 none) [(.int .i64 r2_), (.int .i64 0), (.bool false), (.slice none 0 0), (.int .i64 0), (.int .i64 0), (.int .i64 0), (.int .i64 0), (.slice none 0 0)]
 (f32c16 X L b0_ b1_ b3_)
def f32 (X : XT) (L : LoopI) (x : (ByteArray) × Unit) : M Value :=
 M.new (.cells (Row.ofList [(.int .i64 0), (.int .i64 0), (.bool false), (.slice none 0 0), (.int .i64 0), (.int .i64 0), (.int .i64 0), (.int .i64 0), (.slice none 0 0)]) 77 false (0, 0) false) fun b0_ =>
 M.new (.cells (Row.ofList [(.string x.1), (.bool false)]) 107 false (0, 0) false) fun b1_ =>
 f32c17 X L b0_ b1_

theorem e32 (X : XT) (L : LoopI) (x : (ByteArray) × Unit) : evBody CC { call := X, loop := L } 32 (shsInj [(.cell .string)] x) = f32 X L x := by kernel_rfl

/-- hayrick/hayrickref12.Same -/
def f33c0 (X : XT) (L : LoopI) (x : (SL) × (SL) × Unit) (s3_ : (Int) × Unit) (a6_ : Addr) : M (((Int) × Unit) ⊕ ((Unit) ⊕ (((Bool) × Unit) ⊕ (Unit)))) :=
 M.load (.agg [(.int .i64), .string]) 2 (a6_.add ((Int.toNat s3_.1) * 2)) fun (x7_ : Int × ByteArray × Unit) =>
 M.guard (inB s3_.1 x.2.1.2.1)
 (M.deref x.2.1.1 fun a8_ =>
 M.load (.agg [(.int .i64), .string]) 2 (a8_.add ((Int.toNat s3_.1) * 2)) fun (x9_ : Int × ByteArray × Unit) =>
 aEql PP 71 false false (.agg ⟨[(.int .i64 x7_.1), (.string x7_.2.1)]⟩) (.agg ⟨[(.int .i64 x9_.1), (.string x9_.2.1)]⟩) fun (q10_ : Bool) =>
 M.ite (!q10_)
 (M.pure (.inr (.inr (.inl (false, ())))))
 (M.pure (.inl ((addW .i64 s3_.1 1), ()))))
def f33 (X : XT) (L : LoopI) (x : (SL) × (SL) × Unit) : M Value :=
 M.ite (!(eqB ((x.1.2.1 : Nat) : Int) ((x.2.1.2.1 : Nat) : Int)))
 (M.pure (.bool false))
 (M.bind (L (σ := (Int) × Unit) (ρ := (Unit) ⊕ (((Bool) × Unit) ⊕ (Unit))) (fun s3_ =>
 M.ite (ltB s3_.1 ((x.1.2.1 : Nat) : Int))
 (M.guard (inB s3_.1 x.1.2.1)
 (M.deref x.1.1 fun a6_ =>
 f33c0 X L x s3_ a6_))
 (M.pure (.inr (.inl (()))))) (0, ())) <| M.sum (fun (j13_ : Unit) =>
 M.pure (.bool true)) (M.sum (fun (j14_ : (Bool) × Unit) =>
 M.pure (.bool j14_.1)) (fun _ => M.stuck)))

theorem e33 (X : XT) (L : LoopI) (x : (SL) × (SL) × Unit) : evBody CC { call := X, loop := L } 33 (shsInj [(.cell .slice), (.cell .slice)] x) = f33 X L x := by kernel_rfl

/-- (*strings.Builder).WriteString -/
def f34 (X : XT) (L : LoopI) (x : (PA) × (ByteArray) × Unit) : M Value :=
 M.callS (.tuple []) (X (.call 68 [(.pointer x.1)])) fun (r0_ : Unit) =>
 M.deref x.1 fun a1_ =>
 M.load (.cell .slice) 1 (a1_.add 1) fun (x2_ : SL) =>
 M.append 5 1 1 x2_.1 x2_.2.1 x2_.2.2 (.string x.2.1) fun a3_ n4_ c5_ =>
 M.deref x.1 fun a6_ =>
 M.store (a6_.add 1) [(.slice a3_ n4_ c5_)]
 (M.pure (.tuple ⟨[(.int .i64 ((x.2.1.size : Nat) : Int)), .nilIface]⟩))

theorem e34 (X : XT) (L : LoopI) (x : (PA) × (ByteArray) × Unit) : evBody CC { call := X, loop := L } 34 (shsInj [(.cell .ptr), (.cell .string)] x) = f34 X L x := by kernel_rfl

/-- (*strings.Builder).Len -/
def f35 (X : XT) (L : LoopI) (x : (PA) × Unit) : M Value :=
 M.deref x.1 fun a0_ =>
 M.load (.cell .slice) 1 (a0_.add 1) fun (x1_ : SL) =>
 M.pure (.int .i64 ((x1_.2.1 : Nat) : Int))

theorem e35 (X : XT) (L : LoopI) (x : (PA) × Unit) : evBody CC { call := X, loop := L } 35 (shsInj [(.cell .ptr)] x) = f35 X L x := by kernel_rfl

/-- (*strings.Builder).String -/
def f36 (X : XT) (L : LoopI) (x : (PA) × Unit) : M Value :=
 M.deref x.1 fun a0_ =>
 M.load (.cell .slice) 1 (a0_.add 1) fun (x1_ : SL) =>
 M.deref x.1 fun a2_ =>
 M.load (.cell .slice) 1 (a2_.add 1) fun (x3_ : SL) =>
 aBuiltin PP .unsafeSliceData #[49] [(.slice x1_.1 x1_.2.1 x1_.2.2)] fun (w5_ : Value) =>
 M.load (.cell .slice) 1 (a2_.add 1) fun (x6_ : SL) => cond (veqv (.slice x6_.1 x6_.2.1 x6_.2.2) (.slice x3_.1 x3_.2.1 x3_.2.2)) (aBuiltin PP .unsafeString #[119, 3] [w5_, (.int .i64 ((x3_.2.1 : Nat) : Int))] fun (w7_ : Value) =>
 M.pure w7_) M.stuck

theorem e36 (X : XT) (L : LoopI) (x : (PA) × Unit) : evBody CC { call := X, loop := L } 36 (shsInj [(.cell .ptr)] x) = f36 X L x := by kernel_rfl

/-- hayrick/shell.shapeOf -/
def f37c0 (X : XT) (L : LoopI) (b0_ : Nat) (v16_ : Bool) : M (Value) :=
 M.ite v16_
 (M.store (Addr.mk b0_ 0 none) [(.bool false), (.bool false), (.bool false), (.bool false), (.bool true)]
 (M.load (.agg [.bool, .bool, .bool, .bool, .bool]) 5 (Addr.mk b0_ 0 none) fun (x17_ : Bool × Bool × Bool × Bool × Bool × Unit) =>
 M.pure (.agg ⟨[(.bool x17_.1), (.bool x17_.2.1), (.bool x17_.2.2.1), (.bool x17_.2.2.2.1), (.bool x17_.2.2.2.2.1)]⟩)))
 (M.store (Addr.mk b0_ 0 none) [(.bool false), (.bool false), (.bool false), (.bool false), (.bool false)]
 (M.load (.agg [.bool, .bool, .bool, .bool, .bool]) 5 (Addr.mk b0_ 0 none) fun (x18_ : Bool × Bool × Bool × Bool × Bool × Unit) =>
 M.pure (.agg ⟨[(.bool x18_.1), (.bool x18_.2.1), (.bool x18_.2.2.1), (.bool x18_.2.2.2.1), (.bool x18_.2.2.2.2.1)]⟩)))
def f37c1 (X : XT) (L : LoopI) (x : (Int) × Unit) (b0_ : Nat) : M (Value) :=
 M.join (fun (j13_ : (Bool) × Unit) =>
 M.ite j13_.1
 (M.store (Addr.mk b0_ 0 none) [(.bool false), (.bool false), (.bool true), (.bool false), (.bool false)]
 (M.load (.agg [.bool, .bool, .bool, .bool, .bool]) 5 (Addr.mk b0_ 0 none) fun (x15_ : Bool × Bool × Bool × Bool × Bool × Unit) =>
 M.pure (.agg ⟨[(.bool x15_.1), (.bool x15_.2.1), (.bool x15_.2.2.1), (.bool x15_.2.2.2.1), (.bool x15_.2.2.2.2.1)]⟩)))
 (f37c0 X L b0_ (eqB x.1 20))) fun go14_ =>
 M.ite (eqB x.1 15)
 (go14_ (true, ()))
 (M.ite (eqB x.1 17)
 (go14_ (true, ()))
 (M.ite (eqB x.1 18)
 (go14_ (true, ()))
 (go14_ ((eqB x.1 19), ()))))
def f37c2 (X : XT) (L : LoopI) (x : (Int) × Unit) (b0_ : Nat) (v9_ : Bool) : M (Value) :=
 M.ite v9_
 (M.store (Addr.mk b0_ 0 none) [(.bool true), (.bool false), (.bool true), (.bool false), (.bool true)]
 (M.load (.agg [.bool, .bool, .bool, .bool, .bool]) 5 (Addr.mk b0_ 0 none) fun (x10_ : Bool × Bool × Bool × Bool × Bool × Unit) =>
 M.pure (.agg ⟨[(.bool x10_.1), (.bool x10_.2.1), (.bool x10_.2.2.1), (.bool x10_.2.2.2.1), (.bool x10_.2.2.2.2.1)]⟩)))
 (M.ite (eqB x.1 9)
 (M.store (Addr.mk b0_ 0 none) [(.bool true), (.bool false), (.bool true), (.bool false), (.bool false)]
 (M.load (.agg [.bool, .bool, .bool, .bool, .bool]) 5 (Addr.mk b0_ 0 none) fun (x12_ : Bool × Bool × Bool × Bool × Bool × Unit) =>
 M.pure (.agg ⟨[(.bool x12_.1), (.bool x12_.2.1), (.bool x12_.2.2.1), (.bool x12_.2.2.2.1), (.bool x12_.2.2.2.2.1)]⟩)))
 (f37c1 X L x b0_))
def f37c3 (X : XT) (L : LoopI) (x : (Int) × Unit) (b0_ : Nat) (j4_ : (Bool) × Unit) : M (Value) :=
 M.ite j4_.1
 (M.store (Addr.mk b0_ 0 none) [(.bool true), (.bool true), (.bool false), (.bool false), (.bool false)]
 (M.load (.agg [.bool, .bool, .bool, .bool, .bool]) 5 (Addr.mk b0_ 0 none) fun (x6_ : Bool × Bool × Bool × Bool × Bool × Unit) =>
 M.pure (.agg ⟨[(.bool x6_.1), (.bool x6_.2.1), (.bool x6_.2.2.1), (.bool x6_.2.2.2.1), (.bool x6_.2.2.2.2.1)]⟩)))
 (M.ite (eqB x.1 7)
 (M.store (Addr.mk b0_ 0 none) [(.bool true), (.bool false), (.bool true), (.bool true), (.bool false)]
 (M.load (.agg [.bool, .bool, .bool, .bool, .bool]) 5 (Addr.mk b0_ 0 none) fun (x8_ : Bool × Bool × Bool × Bool × Bool × Unit) =>
 M.pure (.agg ⟨[(.bool x8_.1), (.bool x8_.2.1), (.bool x8_.2.2.1), (.bool x8_.2.2.2.1), (.bool x8_.2.2.2.2.1)]⟩)))
 (f37c2 X L x b0_ (eqB x.1 8)))
def f37c4 (X : XT) (L : LoopI) (x : (Int) × Unit) (b0_ : Nat) : M (Value) :=
 M.join (fun (j1_ : (Bool) × Unit) =>
 M.ite j1_.1
 (M.store (Addr.mk b0_ 0 none) [(.bool true), (.bool false), (.bool false), (.bool false), (.bool false)]
 (M.load (.agg [.bool, .bool, .bool, .bool, .bool]) 5 (Addr.mk b0_ 0 none) fun (x3_ : Bool × Bool × Bool × Bool × Bool × Unit) =>
 M.pure (.agg ⟨[(.bool x3_.1), (.bool x3_.2.1), (.bool x3_.2.2.1), (.bool x3_.2.2.2.1), (.bool x3_.2.2.2.2.1)]⟩)))
 (M.join (fun (j4_ : (Bool) × Unit) =>
 f37c3 X L x b0_ j4_) fun go5_ =>
 M.ite (eqB x.1 3)
 (go5_ (true, ()))
 (go5_ ((eqB x.1 6), ())))) fun go2_ =>
 M.ite (eqB x.1 1)
 (go2_ (true, ()))
 (M.ite (eqB x.1 2)
 (go2_ (true, ()))
 (M.ite (eqB x.1 4)
 (go2_ (true, ()))
 (M.ite (eqB x.1 5)
 (go2_ (true, ()))
 (M.ite (eqB x.1 10)
 (go2_ (true, ()))
 (M.ite (eqB x.1 11)
 (go2_ (true, ()))
 (go2_ ((eqB x.1 12), ())))))))
def f37 (X : XT) (L : LoopI) (x : (Int) × Unit) : M Value :=
 M.new (.cells (Row.ofList [(.bool false), (.bool false), (.bool false), (.bool false), (.bool false)]) 93 false (0, 0) false) fun b0_ =>
 f37c4 X L x b0_

theorem e37 (X : XT) (L : LoopI) (x : (Int) × Unit) : evBody CC { call := X, loop := L } 37 (shsInj [(.cell (.int .i64))] x) = f37 X L x := by kernel_rfl

/-- hayrick/shell.name -/
def f38 (X : XT) (L : LoopI) (x : (Int) × Unit) : M Value :=
 M.callS (.one (.cell .slice)) (X (.call 69 [(.string st25), (.string st14)])) fun (r0_ : SL) =>
 M.join (fun (j1_ : (Bool) × Unit) =>
 M.ite j1_.1
 (M.pure (.string st0))
 (M.guard (inB x.1 r0_.2.1)
 (M.deref r0_.1 fun a3_ =>
 M.load (.cell .string) 1 (a3_.add ((Int.toNat x.1) * 1)) fun (x4_ : ByteArray) =>
 M.pure (.string x4_)))) fun go2_ =>
 M.ite (ltB x.1 1)
 (go2_ (true, ()))
 (go2_ ((leB ((r0_.2.1 : Nat) : Int) x.1), ()))

theorem e38 (X : XT) (L : LoopI) (x : (Int) × Unit) : evBody CC { call := X, loop := L } 38 (shsInj [(.cell (.int .i64))] x) = f38 X L x := by kernel_rfl

/-- hayrick/shell.line$1 -/
def f39 (X : XT) (L : LoopI) (x : (Bool) × (ByteArray) × (PA) × Unit) : M Value :=
 M.ite x.1
 (M.deref x.2.2.1 fun a0_ =>
 M.load (.cell .string) 1 a0_ fun (x1_ : ByteArray) =>
 M.guard (Nat.ble (st14.size + x.2.1.size) 9223372036854775807)
 (let v2_ : ByteArray := st14 ++ x.2.1
 M.guard (Nat.ble (x1_.size + v2_.size) 9223372036854775807)
 (M.deref x.2.2.1 fun a4_ =>
 M.store a4_ [(.string (x1_ ++ v2_))]
 (M.pure (.tuple ⟨[]⟩)))))
 (M.pure (.tuple ⟨[]⟩))

theorem e39 (X : XT) (L : LoopI) (x : (Bool) × (ByteArray) × (PA) × Unit) : evBody CC { call := X, loop := L } 39 (shsInj [(.cell .bool), (.cell .string), (.cell .ptr)] x) = f39 X L x := by kernel_rfl

/-- strconv.Itoa -/
def f40 (X : XT) (L : LoopI) (x : (Int) × Unit) : M Value :=
 M.callS (.one (.cell .string)) (X (.call 70 [(.int .i64 x.1)])) fun (r0_ : ByteArray) =>
 M.pure (.string r0_)

theorem e40 (X : XT) (L : LoopI) (x : (Int) × Unit) : evBody CC { call := X, loop := L } 40 (shsInj [(.cell (.int .i64))] x) = f40 X L x := by kernel_rfl

/-- hayrick/hayrickref30.Name -/
def f42c0 (X : XT) (L : LoopI) (x : (Int) × Unit) (b0_ : Nat) : M (Value) :=
 M.store (Addr.mk b0_ 0 none) [(.string st0), (.string st26), (.string st27), (.string st28), (.string st29), (.string st30), (.string st31), (.string st32), (.string st33), (.string st34), (.string st35), (.string st36), (.string st37), (.string st38), (.string st39), (.string st40), (.string st41), (.string st42), (.string st43), (.string st44), (.string st45), (.string st46)]
 (M.join (fun (j1_ : (Bool) × Unit) =>
 M.ite j1_.1
 (M.pure (.string st0))
 (M.guard (inB x.1 22)
 (M.load (.cell .string) 1 ((Addr.mk b0_ 0 none).add ((Int.toNat x.1) * 1)) fun (x3_ : ByteArray) =>
 M.pure (.string x3_)))) fun go2_ =>
 M.ite (ltB x.1 1)
 (go2_ (true, ()))
 (go2_ ((ltB 21 x.1), ())))
def f42 (X : XT) (L : LoopI) (x : (Int) × Unit) : M Value :=
 M.new (.cells (Row.ofList (zc 121)) 121 false (0, 0) false) fun b0_ =>
 f42c0 X L x b0_

theorem e42 (X : XT) (L : LoopI) (x : (Int) × Unit) : evBody CC { call := X, loop := L } 42 (shsInj [(.cell (.int .i64))] x) = f42 X L x := by kernel_rfl

/-- hayrick/hayrickref30.Quote -/
def f43c0 (X : XT) (L : LoopI) (x : (ByteArray) × Unit) (s4_ : (SL) × (Int) × Unit) (go11_ : ((SL) × Unit) → M (((SL) × (Int) × Unit) ⊕ (((SL) × Unit) ⊕ (Unit)))) (v15_ : Int) : M (((SL) × (Int) × Unit) ⊕ (((SL) × Unit) ⊕ (Unit))) :=
 M.guard (!(decide (16 = 0)))
 (let v16_ : Int := IntKind.u8.wrap ((v15_ : Int).tdiv 16)
 M.guard (inB v16_ st15.size)
 (M.guard (inB s4_.2.1 x.1.size)
 (M.guard (!(decide (16 = 0)))
 (let v19_ : Int := ((byteAt x.1 s4_.2.1) : Int).tmod 16
 M.guard (inB v19_ st15.size)
 (M.new (.cells (Row.ofList [(.int .u8 92), (.int .u8 120), (.int .u8 (byteAt st15 v16_)), (.int .u8 (byteAt st15 v19_))]) 5 false (0, 0) false) fun b21_ =>
 M.append 5 1 1 s4_.1.1 s4_.1.2.1 s4_.1.2.2 (.slice (some (Addr.mk b21_ 0 none)) 4 4) fun a22_ n23_ c24_ =>
 go11_ ((a22_, n23_, c24_), ()))))))
def f43c1 (X : XT) (L : LoopI) (x : (ByteArray) × Unit) (s4_ : (SL) × (Int) × Unit) (r9_ : (Int) × (Int) × (Bool) × Unit) (go11_ : ((SL) × Unit) → M (((SL) × (Int) × Unit) ⊕ (((SL) × Unit) ⊕ (Unit)))) (j25_ : (Bool) × Unit) : M (((SL) × (Int) × Unit) ⊕ (((SL) × Unit) ⊕ (Unit))) :=
 M.ite j25_.1
 (M.guard (inB s4_.2.1 x.1.size)
 (M.new (.cells (Row.ofList [(.int .u8 92), (.int .u8 (byteAt x.1 s4_.2.1))]) 5 false (0, 0) false) fun b28_ =>
 M.append 5 1 1 s4_.1.1 s4_.1.2.1 s4_.1.2.2 (.slice (some (Addr.mk b28_ 0 none)) 2 2) fun a29_ n30_ c31_ =>
 go11_ ((a29_, n30_, c31_), ())))
 (let v32_ : Int := addW .i64 s4_.2.1 r9_.2.1
 M.guard (upB v32_ x.1.size)
 (let v33_ : Nat := (Int.toNat v32_)
 M.guard (upB s4_.2.1 v33_)
 (M.append 5 1 1 s4_.1.1 s4_.1.2.1 s4_.1.2.2 (.string (x.1.extract (Int.toNat s4_.2.1) v33_)) fun a36_ n37_ c38_ =>
 go11_ ((a36_, n37_, c38_), ()))))
def f43c2 (X : XT) (L : LoopI) (x : (ByteArray) × Unit) (s4_ : (SL) × (Int) × Unit) (r9_ : (Int) × (Int) × (Bool) × Unit) : M (((SL) × (Int) × Unit) ⊕ (((SL) × Unit) ⊕ (Unit))) :=
 M.join (fun (j10_ : (SL) × Unit) =>
 M.pure (.inl (j10_.1, (addW .i64 s4_.2.1 r9_.2.1), ()))) fun go11_ =>
 M.join (fun (j13_ : (Bool) × Unit) =>
 M.ite j13_.1
 (M.guard (inB s4_.2.1 x.1.size)
 (f43c0 X L x s4_ go11_ (byteAt x.1 s4_.2.1)))
 (M.join (fun (j25_ : (Bool) × Unit) =>
 f43c1 X L x s4_ r9_ go11_ j25_) fun go26_ =>
 M.ite (eqB r9_.1 34)
 (go26_ (true, ()))
 (go26_ ((eqB r9_.1 92), ())))) fun go14_ =>
 M.ite r9_.2.2.1
 (go14_ (true, ()))
 (M.ite (ltB r9_.1 32)
 (go14_ (true, ()))
 (go14_ ((eqB r9_.1 127), ())))
def f43c3 (X : XT) (L : LoopI) (x : (ByteArray) × Unit) (a1_ : PA) (n2_ : Nat) (c3_ : Nat) : M (Value) :=
 M.bind (L (σ := (SL) × (Int) × Unit) (ρ := ((SL) × Unit) ⊕ (Unit)) (fun s4_ =>
 M.ite (ltB s4_.2.1 ((x.1.size : Nat) : Int))
 (M.guard (upB s4_.2.1 x.1.size)
 (M.callS (.tuple [(.cell (.int .i32)), (.cell (.int .i64)), (.cell .bool)]) (X (.call 71 [(.string (x.1.extract (Int.toNat s4_.2.1) x.1.size))])) fun (r9_ : (Int) × (Int) × (Bool) × Unit) =>
 f43c2 X L x s4_ r9_))
 (M.pure (.inr (.inl (s4_.1, ()))))) ((a1_, n2_, c3_), 0, ())) <| M.sum (fun (j43_ : (SL) × Unit) =>
 M.new (.cells (Row.ofList [(.int .u8 34)]) 5 false (0, 0) false) fun b44_ =>
 M.append 5 1 1 j43_.1.1 j43_.1.2.1 j43_.1.2.2 (.slice (some (Addr.mk b44_ 0 none)) 1 1) fun a45_ n46_ c47_ =>
 M.toStr a45_ n46_ fun s48_ =>
 M.pure (.string s48_)) (fun _ => M.stuck)
def f43 (X : XT) (L : LoopI) (x : (ByteArray) × Unit) : M Value :=
 M.new (.cells (Row.ofList [(.int .u8 34)]) 5 false (0, 0) false) fun b0_ =>
 M.append 5 1 1 none 0 0 (.slice (some (Addr.mk b0_ 0 none)) 1 1) fun a1_ n2_ c3_ =>
 f43c3 X L x a1_ n2_ c3_

theorem e43 (X : XT) (L : LoopI) (x : (ByteArray) × Unit) : evBody CC { call := X, loop := L } 43 (shsInj [(.cell .string)] x) = f43 X L x := by kernel_rfl

/-- hayrick/hayrickref30.Number -/
def f44c0 (X : XT) (L : LoopI) (x : (Int) × Unit) (j1_ : (Int) × Unit) : M (Value) :=
 M.bind (L (σ := (Int) × (ByteArray) × Unit) (ρ := ((Int) × (ByteArray) × Unit) ⊕ (Unit)) (fun s3_ =>
 M.ite (ltB 9 s3_.1)
 (M.guard (!(decide (10 = 0)))
 (M.new (.cells (Row.ofList [(.int .u8 (wrapW .u8 (addW .u64 48 ((s3_.1 : Int).tmod 10))))]) 5 false (0, 0) false) fun b8_ =>
 M.toStr (some (Addr.mk b8_ 0 none)) 1 fun s9_ =>
 M.guard (Nat.ble (s9_.size + s3_.2.1.size) 9223372036854775807)
 (M.guard (!(decide (10 = 0)))
 (M.pure (.inl ((IntKind.u64.wrap ((s3_.1 : Int).tdiv 10)), (s9_ ++ s3_.2.1), ()))))))
 (M.pure (.inr (.inl (s3_.1, s3_.2.1, ()))))) (j1_.1, st0, ())) <| M.sum (fun (j12_ : (Int) × (ByteArray) × Unit) =>
 M.new (.cells (Row.ofList [(.int .u8 (wrapW .u8 (addW .u64 48 j12_.1)))]) 5 false (0, 0) false) fun b15_ =>
 M.toStr (some (Addr.mk b15_ 0 none)) 1 fun s16_ =>
 M.guard (Nat.ble (s16_.size + j12_.2.1.size) 9223372036854775807)
 (let v17_ : ByteArray := s16_ ++ j12_.2.1
 M.ite (ltB x.1 0)
 (M.guard (Nat.ble (st47.size + v17_.size) 9223372036854775807)
 (M.pure (.string (st47 ++ v17_))))
 (M.pure (.string v17_)))) (fun _ => M.stuck)
def f44 (X : XT) (L : LoopI) (x : (Int) × Unit) : M Value :=
 let v0_ : Int := wrapW .u64 x.1
 M.join (fun (j1_ : (Int) × Unit) =>
 f44c0 X L x j1_) fun go2_ =>
 M.ite (ltB x.1 0)
 (go2_ ((subW .u64 0 v0_), ()))
 (go2_ (v0_, ()))

theorem e44 (X : XT) (L : LoopI) (x : (Int) × Unit) : evBody CC { call := X, loop := L } 44 (shsInj [(.cell (.int .i64))] x) = f44 X L x := by kernel_rfl

/-- strings.Cut -/
def f45 (X : XT) (L : LoopI) (x : (ByteArray) × (ByteArray) × Unit) : M Value :=
 M.callS (.tuple [(.cell .string), (.cell .string), (.cell .bool)]) (X (.call 72 [(.string x.1), (.string x.2.1)])) fun (r0_ : (ByteArray) × (ByteArray) × (Bool) × Unit) =>
 M.pure (.tuple ⟨[(.string r0_.1), (.string r0_.2.1), (.bool r0_.2.2.1)]⟩)

theorem e45 (X : XT) (L : LoopI) (x : (ByteArray) × (ByteArray) × Unit) : evBody CC { call := X, loop := L } 45 (shsInj [(.cell .string), (.cell .string)] x) = f45 X L x := by kernel_rfl

/-- (*hayrick/shell.reader).kind -/
def f46 (X : XT) (L : LoopI) (x : (PA) × Unit) : M Value :=
 M.callS (.one (.cell .slice)) (X (.call 69 [(.string st25), (.string st14)])) fun (r0_ : SL) =>
 M.callS (.one (.cell .string)) (X (.call 65 [(.pointer x.1)])) fun (r1_ : ByteArray) =>
 M.callS (.one (.cell (.int .i64))) (X (.call 73 [(.slice r0_.1 r0_.2.1 r0_.2.2), (.string r1_)])) fun (r2_ : Int) =>
 M.join (fun (j3_ : Unit) =>
 M.pure (.int .i64 r2_)) fun go4_ =>
 M.ite (ltB r2_ 1)
 (M.deref x.1 fun a6_ =>
 M.store (a6_.add 1) [(.bool true)]
 (go4_ (())))
 (go4_ (()))

theorem e46 (X : XT) (L : LoopI) (x : (PA) × Unit) : evBody CC { call := X, loop := L } 46 (shsInj [(.cell .ptr)] x) = f46 X L x := by kernel_rfl

/-- hayrick/shell.event$1 -/
def f47 (X : XT) (L : LoopI) (x : (Bool) × (Value) × (PA) × Unit) : M Value :=
 M.join (fun (j0_ : (Bool) × Unit) =>
 M.ite j0_.1
 (callV CC ⟨X, L⟩ x.2.1 [] fun w3_ => M.need (RSh.prj (.tuple []) w3_) fun (r2_ : Unit) =>
 M.pure (.tuple ⟨[]⟩))
 (M.pure (.tuple ⟨[]⟩))) fun go1_ =>
 M.ite x.1
 (M.deref x.2.2.1 fun a4_ =>
 M.load (.cell .ptr) 1 a4_ fun (x5_ : PA) =>
 M.deref x5_ fun a6_ =>
 M.load (.cell .bool) 1 (a6_.add 1) fun (x7_ : Bool) =>
 go1_ ((!x7_), ()))
 (go1_ (false, ()))

theorem e47 (X : XT) (L : LoopI) (x : (Bool) × (Value) × (PA) × Unit) : evBody CC { call := X, loop := L } 47 (shsInj [(.cell .bool), (.cell .val), (.cell .ptr)] x) = f47 X L x := by kernel_rfl

/-- hayrick/shell.event$2 -/
def f48 (X : XT) (L : LoopI) (x : (PA) × (PA) × Unit) : M Value :=
 M.deref x.1 fun a0_ =>
 M.load (.cell .ptr) 1 a0_ fun (x1_ : PA) =>
 M.callS (.one (.cell .string)) (X (.call 49 [(.pointer x1_)])) fun (r2_ : ByteArray) =>
 M.deref x.2.1 fun a3_ =>
 M.store (a3_.add 1) [(.string r2_)]
 (M.pure (.tuple ⟨[]⟩))

theorem e48 (X : XT) (L : LoopI) (x : (PA) × (PA) × Unit) : evBody CC { call := X, loop := L } 48 (shsInj [(.cell .ptr), (.cell .ptr)] x) = f48 X L x := by kernel_rfl

/-- (*hayrick/shell.reader).word -/
def f49c0 (X : XT) (L : LoopI) (x : (PA) × Unit) (r2_ : (ByteArray) × (ByteArray) × (Bool) × Unit) (go4_ : (Unit) → M (Value)) (v7_ : Bool) : M (Value) :=
 M.ite v7_
 (M.deref x.1 fun a8_ =>
 M.store (a8_.add 0) [(.string st0)]
 (go4_ (())))
 (M.join (fun (j9_ : (Bool) × Unit) =>
 M.ite j9_.1
 (M.guard (upB 1 r2_.2.1.size)
 (M.deref x.1 fun a13_ =>
 M.store (a13_.add 0) [(.string (r2_.2.1.extract (Int.toNat 1) r2_.2.1.size))]
 (go4_ (()))))
 (M.deref x.1 fun a14_ =>
 M.store (a14_.add 1) [(.bool true)]
 (go4_ (())))) fun go10_ =>
 M.guard (inB 0 r2_.2.1.size)
 (M.ite (eqB (byteAt r2_.2.1 0) 32)
 (go10_ ((ltB 1 ((r2_.2.1.size : Nat) : Int)), ()))
 (go10_ (false, ()))))
def f49 (X : XT) (L : LoopI) (x : (PA) × Unit) : M Value :=
 M.deref x.1 fun a0_ =>
 M.load (.cell .string) 1 (a0_.add 0) fun (x1_ : ByteArray) =>
 M.callS (.tuple [(.cell .string), (.cell .string), (.cell .bool)]) (X (.call 25 [(.string x1_)])) fun (r2_ : (ByteArray) × (ByteArray) × (Bool) × Unit) =>
 M.join (fun (j3_ : Unit) =>
 M.pure (.string r2_.1)) fun go4_ =>
 M.ite (!r2_.2.2.1)
 (M.deref x.1 fun a6_ =>
 M.store (a6_.add 1) [(.bool true)]
 (go4_ (())))
 (f49c0 X L x r2_ go4_ (seq r2_.2.1 st0))

theorem e49 (X : XT) (L : LoopI) (x : (PA) × Unit) : evBody CC { call := X, loop := L } 49 (shsInj [(.cell .ptr)] x) = f49 X L x := by kernel_rfl

/-- hayrick/shell.event$3 -/
def f50 (X : XT) (L : LoopI) (x : (PA) × (PA) × Unit) : M Value :=
 M.deref x.1 fun a0_ =>
 M.load (.cell .ptr) 1 a0_ fun (x1_ : PA) =>
 M.callS (.one (.cell .string)) (X (.call 49 [(.pointer x1_)])) fun (r2_ : ByteArray) =>
 M.deref x.2.1 fun a3_ =>
 M.store (a3_.add 2) [(.string r2_)]
 (M.pure (.tuple ⟨[]⟩))

theorem e50 (X : XT) (L : LoopI) (x : (PA) × (PA) × Unit) : evBody CC { call := X, loop := L } 50 (shsInj [(.cell .ptr), (.cell .ptr)] x) = f50 X L x := by kernel_rfl

/-- hayrick/shell.event$4 -/
def f51 (X : XT) (L : LoopI) (x : (PA) × (PA) × Unit) : M Value :=
 M.deref x.1 fun a0_ =>
 M.load (.cell .ptr) 1 a0_ fun (x1_ : PA) =>
 M.callS (.one (.cell (.int .i64))) (X (.call 52 [(.pointer x1_)])) fun (r2_ : Int) =>
 M.deref x.2.1 fun a3_ =>
 M.store (a3_.add 3) [(.int .i64 r2_)]
 (M.pure (.tuple ⟨[]⟩))

theorem e51 (X : XT) (L : LoopI) (x : (PA) × (PA) × Unit) : evBody CC { call := X, loop := L } 51 (shsInj [(.cell .ptr), (.cell .ptr)] x) = f51 X L x := by kernel_rfl

/-- (*hayrick/shell.reader).number -/
def f52c0 (X : XT) (L : LoopI) (x : (PA) × Unit) (r0_ : ByteArray) : M (Value) :=
 M.callS (.tuple [(.cell (.int .i64)), (.cell .val)]) (X (.call 74 [(.string r0_)])) fun (r1_ : (Int) × (Value) × Unit) =>
 M.join (fun (j2_ : Unit) =>
 M.pure (.int .i64 r1_.1)) fun go3_ =>
 M.join (fun (j4_ : (Bool) × Unit) =>
 M.ite j4_.1
 (M.deref x.1 fun a6_ =>
 M.store (a6_.add 1) [(.bool true)]
 (go3_ (())))
 (go3_ (()))) fun go5_ =>
 aEql PP 87 false true r1_.2.1 .nilIface fun (q7_ : Bool) =>
 M.ite (!q7_)
 (go5_ (true, ()))
 (M.callS (.one (.cell .string)) (X (.call 40 [(.int .i64 r1_.1)])) fun (r9_ : ByteArray) =>
 go5_ ((!(seq r9_ r0_)), ()))
def f52 (X : XT) (L : LoopI) (x : (PA) × Unit) : M Value :=
 M.callS (.one (.cell .string)) (X (.call 65 [(.pointer x.1)])) fun (r0_ : ByteArray) =>
 f52c0 X L x r0_

theorem e52 (X : XT) (L : LoopI) (x : (PA) × Unit) : evBody CC { call := X, loop := L } 52 (shsInj [(.cell .ptr)] x) = f52 X L x := by kernel_rfl

/-- hayrick/shell.event$5 -/
def f53 (X : XT) (L : LoopI) (x : (PA) × (PA) × Unit) : M Value :=
 M.deref x.1 fun a0_ =>
 M.load (.cell .ptr) 1 a0_ fun (x1_ : PA) =>
 M.callS (.one (.cell (.int .i64))) (X (.call 52 [(.pointer x1_)])) fun (r2_ : Int) =>
 M.deref x.2.1 fun a3_ =>
 M.store (a3_.add 4) [(.int .i64 r2_)]
 (M.pure (.tuple ⟨[]⟩))

theorem e53 (X : XT) (L : LoopI) (x : (PA) × (PA) × Unit) : evBody CC { call := X, loop := L } 53 (shsInj [(.cell .ptr), (.cell .ptr)] x) = f53 X L x := by kernel_rfl

/-- hayrick/shell.event$6 -/
def f54 (X : XT) (L : LoopI) (x : (PA) × (PA) × Unit) : M Value :=
 M.deref x.1 fun a0_ =>
 M.load (.cell .ptr) 1 a0_ fun (x1_ : PA) =>
 M.callS (.one (.cell .string)) (X (.call 49 [(.pointer x1_)])) fun (r2_ : ByteArray) =>
 M.ofStr 5 r2_ fun a3_ n4_ c5_ =>
 M.deref x.2.1 fun a6_ =>
 M.store (a6_.add 5) [(.slice a3_ n4_ c5_)]
 (M.pure (.tuple ⟨[]⟩))

theorem e54 (X : XT) (L : LoopI) (x : (PA) × (PA) × Unit) : evBody CC { call := X, loop := L } 54 (shsInj [(.cell .ptr), (.cell .ptr)] x) = f54 X L x := by kernel_rfl

/-- (*hayrick/hayrickref30.Reader).kind -/
def f55c0 (X : XT) (L : LoopI) (x : (PA) × Unit) (r0_ : ByteArray) : M (Value) :=
 M.bind (L (σ := (Int) × Unit) (ρ := (Unit) ⊕ (((Int) × Unit) ⊕ (Unit))) (fun s1_ =>
 M.ite (leB s1_.1 21)
 (M.callS (.one (.cell .string)) (X (.call 42 [(.int .i64 s1_.1)])) fun (r3_ : ByteArray) =>
 M.ite (seq r3_ r0_)
 (M.pure (.inr (.inr (.inl (s1_.1, ())))))
 (M.pure (.inl ((addW .i64 s1_.1 1), ()))))
 (M.pure (.inr (.inl (()))))) (1, ())) <| M.sum (fun (j6_ : Unit) =>
 M.deref x.1 fun a7_ =>
 M.store (a7_.add 1) [(.bool true)]
 (M.pure (.int .i64 0))) (M.sum (fun (j8_ : (Int) × Unit) =>
 M.pure (.int .i64 j8_.1)) (fun _ => M.stuck))
def f55 (X : XT) (L : LoopI) (x : (PA) × Unit) : M Value :=
 M.callS (.one (.cell .string)) (X (.call 67 [(.pointer x.1)])) fun (r0_ : ByteArray) =>
 f55c0 X L x r0_

theorem e55 (X : XT) (L : LoopI) (x : (PA) × Unit) : evBody CC { call := X, loop := L } 55 (shsInj [(.cell .ptr)] x) = f55 X L x := by kernel_rfl

/-- (*hayrick/hayrickref30.Reader).word -/
def f56c0 (X : XT) (L : LoopI) (x : (PA) × Unit) : M (Value) :=
 M.callS (.tuple []) (X (.call 66 [(.pointer x.1)])) fun (r0_ : Unit) =>
 M.deref x.1 fun a1_ =>
 M.load (.cell .string) 1 (a1_.add 0) fun (x2_ : ByteArray) =>
 M.callS (.tuple [(.cell .string), (.cell .string), (.cell .bool)]) (X (.call 75 [(.string x2_)])) fun (r3_ : (ByteArray) × (ByteArray) × (Bool) × Unit) =>
 M.join (fun (j4_ : Unit) =>
 M.deref x.1 fun a6_ =>
 M.store (a6_.add 0) [(.string r3_.2.1)]
 (M.pure (.string r3_.1))) fun go5_ =>
 M.ite (!r3_.2.2.1)
 (M.deref x.1 fun a8_ =>
 M.store (a8_.add 1) [(.bool true)]
 (go5_ (())))
 (go5_ (()))
def f56 (X : XT) (L : LoopI) (x : (PA) × Unit) : M Value :=
 f56c0 X L x

theorem e56 (X : XT) (L : LoopI) (x : (PA) × Unit) : evBody CC { call := X, loop := L } 56 (shsInj [(.cell .ptr)] x) = f56 X L x := by kernel_rfl

/-- (*hayrick/hayrickref30.Reader).number -/
def f57c0 (X : XT) (L : LoopI) (x : (PA) × Unit) (j2_ : (ByteArray) × Unit) (s7_ : (Int) × (Int) × Unit) (v9_ : Bool) : M (((Int) × (Int) × Unit) ⊕ (((Int) × Unit) ⊕ (((Int) × Unit) ⊕ (Unit)))) :=
 M.ite v9_
 (M.join (fun (j10_ : (Bool) × Unit) =>
 M.ite j10_.1
 (M.deref x.1 fun a12_ =>
 M.store (a12_.add 1) [(.bool true)]
 (M.pure (.inr (.inr (.inl (0, ()))))))
 (M.guard (inB s7_.2.1 j2_.1.size)
 (M.pure (.inl ((addW .u64 (mulW .u64 10 s7_.1) (wrapW .u64 (subW .u8 (byteAt j2_.1 s7_.2.1) 48))), (addW .i64 s7_.2.1 1), ()))))) fun go11_ =>
 M.guard (inB s7_.2.1 j2_.1.size)
 (M.ite (ltB (byteAt j2_.1 s7_.2.1) 48)
 (go11_ (true, ()))
 (M.guard (inB s7_.2.1 j2_.1.size)
 (go11_ ((ltB 57 (byteAt j2_.1 s7_.2.1)), ())))))
 (M.pure (.inr (.inl (s7_.1, ()))))
def f57c1 (X : XT) (L : LoopI) (x : (PA) × Unit) (r1_ : ByteArray) (j2_ : (ByteArray) × Unit) : M (Value) :=
 M.bind (L (σ := (Int) × (Int) × Unit) (ρ := ((Int) × Unit) ⊕ (((Int) × Unit) ⊕ (Unit))) (fun s7_ =>
 f57c0 X L x j2_ s7_ (ltB s7_.2.1 ((j2_.1.size : Nat) : Int))) (0, 0, ())) <| M.sum (fun (j23_ : (Int) × Unit) =>
 M.join (fun (j25_ : (Int) × Unit) =>
 M.join (fun (j27_ : Unit) =>
 M.pure (.int .i64 j25_.1)) fun go28_ =>
 M.callS (.one (.cell .string)) (X (.call 44 [(.int .i64 j25_.1)])) fun (r29_ : ByteArray) =>
 M.ite (!(seq r29_ r1_))
 (M.deref x.1 fun a31_ =>
 M.store (a31_.add 1) [(.bool true)]
 (go28_ (())))
 (go28_ (()))) fun go26_ =>
 M.ite (ltB ((j2_.1.size : Nat) : Int) ((r1_.size : Nat) : Int))
 (go26_ ((wrapW .i64 (subW .u64 0 j23_.1)), ()))
 (go26_ ((wrapW .i64 j23_.1), ()))) (M.sum (fun (j37_ : (Int) × Unit) =>
 M.pure (.int .i64 j37_.1)) (fun _ => M.stuck))
def f57c2 (X : XT) (L : LoopI) (x : (PA) × Unit) (r1_ : ByteArray) : M (Value) :=
 M.join (fun (j2_ : (ByteArray) × Unit) =>
 M.join (fun (j4_ : (Bool) × Unit) =>
 M.ite j4_.1
 (M.deref x.1 fun a6_ =>
 M.store (a6_.add 1) [(.bool true)]
 (M.pure (.int .i64 0)))
 (f57c1 X L x r1_ j2_)) fun go5_ =>
 M.ite (eqB ((j2_.1.size : Nat) : Int) 0)
 (go5_ (true, ()))
 (go5_ ((ltB 19 ((j2_.1.size : Nat) : Int)), ()))) fun go3_ =>
 M.join (fun (j42_ : (Bool) × Unit) =>
 M.ite j42_.1
 (M.guard (upB 1 r1_.size)
 (go3_ ((r1_.extract (Int.toNat 1) r1_.size), ())))
 (go3_ (r1_, ()))) fun go43_ =>
 M.ite (ltB 0 ((r1_.size : Nat) : Int))
 (M.guard (inB 0 r1_.size)
 (go43_ ((eqB (byteAt r1_ 0) 45), ())))
 (go43_ (false, ()))
def f57 (X : XT) (L : LoopI) (x : (PA) × Unit) : M Value :=
 M.callS (.tuple []) (X (.call 66 [(.pointer x.1)])) fun (r0_ : Unit) =>
 M.callS (.one (.cell .string)) (X (.call 67 [(.pointer x.1)])) fun (r1_ : ByteArray) =>
 f57c2 X L x r1_

theorem e57 (X : XT) (L : LoopI) (x : (PA) × Unit) : evBody CC { call := X, loop := L } 57 (shsInj [(.cell .ptr)] x) = f57 X L x := by kernel_rfl

/-- hayrick/shell.end -/
def f58c0 (X : XT) (L : LoopI) (b2_ : Nat) : M (Value) :=
 M.bind (L (σ := (Bool) × Unit) (ρ := (Unit) ⊕ (((Int) × Unit) ⊕ (Unit))) (fun s3_ =>
 M.next b2_
 (M.pure (.inr (.inl (())))) fun i4_ c5_ =>
 M.join (fun (j6_ : (Bool) × Unit) =>
 M.pure (.inl (j6_.1, ()))) fun go7_ =>
 M.ite s3_.1
 (go7_ (false, ()))
 (M.ite (eqB c5_ 92)
 (go7_ (true, ()))
 (M.ite (eqB c5_ 34)
 (M.pure (.inr (.inr (.inl ((addW .i64 i4_ 1), ())))))
 (go7_ (s3_.1, ()))))) (true, ())) <| M.sum (fun (j11_ : Unit) =>
 M.pure (.int .i64 (-1))) (M.sum (fun (j12_ : (Int) × Unit) =>
 M.pure (.int .i64 j12_.1)) (fun _ => M.stuck))
def f58 (X : XT) (L : LoopI) (x : (ByteArray) × Unit) : M Value :=
 M.callS (.one (.cell .bool)) (X (.call 59 [(.string x.1), (.string st48)])) fun (r0_ : Bool) =>
 M.ite (!r0_)
 (M.pure (.int .i64 (-1)))
 (M.new (.iter x.1 0) fun b2_ =>
 f58c0 X L b2_)

theorem e58 (X : XT) (L : LoopI) (x : (ByteArray) × Unit) : evBody CC { call := X, loop := L } 58 (shsInj [(.cell .string)] x) = f58 X L x := by kernel_rfl

/-- strings.HasPrefix -/
def f59 (X : XT) (L : LoopI) (x : (ByteArray) × (ByteArray) × Unit) : M Value :=
 M.callS (.one (.cell .bool)) (X (.call 76 [(.string x.1), (.string x.2.1)])) fun (r0_ : Bool) =>
 M.pure (.bool r0_)

theorem e59 (X : XT) (L : LoopI) (x : (ByteArray) × (ByteArray) × Unit) : evBody CC { call := X, loop := L } 59 (shsInj [(.cell .string), (.cell .string)] x) = f59 X L x := by kernel_rfl

/-- strings.IndexByte -/
def f60 (X : XT) (L : LoopI) (x : (ByteArray) × (Int) × Unit) : M Value :=
 M.callS (.one (.cell (.int .i64))) (X (.call 77 [(.string x.1), (.int .u8 x.2.1)])) fun (r0_ : Int) =>
 M.pure (.int .i64 r0_)

theorem e60 (X : XT) (L : LoopI) (x : (ByteArray) × (Int) × Unit) : evBody CC { call := X, loop := L } 60 (shsInj [(.cell .string), (.cell (.int .u8))] x) = f60 X L x := by kernel_rfl

/-- (*strings.Builder).WriteByte -/
def f61 (X : XT) (L : LoopI) (x : (PA) × (Int) × Unit) : M Value :=
 M.callS (.tuple []) (X (.call 68 [(.pointer x.1)])) fun (r0_ : Unit) =>
 M.deref x.1 fun a1_ =>
 M.load (.cell .slice) 1 (a1_.add 1) fun (x2_ : SL) =>
 M.new (.cells (Row.ofList [(.int .u8 x.2.1)]) 5 false (0, 0) false) fun b3_ =>
 M.append 5 1 1 x2_.1 x2_.2.1 x2_.2.2 (.slice (some (Addr.mk b3_ 0 none)) 1 1) fun a4_ n5_ c6_ =>
 M.deref x.1 fun a7_ =>
 M.store (a7_.add 1) [(.slice a4_ n5_ c6_)]
 (M.pure .nilIface)

theorem e61 (X : XT) (L : LoopI) (x : (PA) × (Int) × Unit) : evBody CC { call := X, loop := L } 61 (shsInj [(.cell .ptr), (.cell (.int .u8))] x) = f61 X L x := by kernel_rfl

/-- unicode/utf8.DecodeRuneInString -/
def f62 (X : XT) (L : LoopI) (x : (ByteArray) × Unit) : M Value :=
 M.join (fun (j0_ : (Bool) × Unit) =>
 M.ite j0_.1
 (M.guard (inB 0 x.1.size)
 (M.pure (.tuple ⟨[(.int .i32 (wrapW .i32 (byteAt x.1 0))), (.int .i64 1)]⟩)))
 (M.callS (.tuple [(.cell (.int .i32)), (.cell (.int .i64))]) (X (.call 78 [(.string x.1)])) fun (r4_ : (Int) × (Int) × Unit) =>
 M.pure (.tuple ⟨[(.int .i32 r4_.1), (.int .i64 r4_.2.1)]⟩))) fun go1_ =>
 M.ite (!(seq x.1 st0))
 (M.guard (inB 0 x.1.size)
 (go1_ ((ltB (byteAt x.1 0) 128), ())))
 (go1_ (false, ()))

theorem e62 (X : XT) (L : LoopI) (x : (ByteArray) × Unit) : evBody CC { call := X, loop := L } 62 (shsInj [(.cell .string)] x) = f62 X L x := by kernel_rfl

/-- hayrick/names.Whole -/
def f63c0 (X : XT) (L : LoopI) (x : (ByteArray) × Unit) (b0_ : Nat) : M (Value) :=
 M.bind (L (σ := Unit) (ρ := (Unit) ⊕ (((Bool) × Unit) ⊕ (Unit))) (fun s1_ =>
 M.next b0_
 (M.pure (.inr (.inl (())))) fun i2_ c3_ =>
 M.guard (upB i2_ x.1.size)
 (M.callS (.tuple [(.cell (.int .i32)), (.cell (.int .i64))]) (X (.call 62 [(.string (x.1.extract (Int.toNat i2_) x.1.size))])) fun (r6_ : (Int) × (Int) × Unit) =>
 M.join (fun (j7_ : (Bool) × Unit) =>
 M.ite j7_.1
 (M.pure (.inr (.inr (.inl (false, ())))))
 (M.pure (.inl (())))) fun go8_ =>
 M.ite (eqB c3_ 65533)
 (go8_ ((eqB r6_.2.1 1), ()))
 (go8_ (false, ())))) (())) <| M.sum (fun (j11_ : Unit) =>
 M.pure (.bool true)) (M.sum (fun (j12_ : (Bool) × Unit) =>
 M.pure (.bool j12_.1)) (fun _ => M.stuck))
def f63 (X : XT) (L : LoopI) (x : (ByteArray) × Unit) : M Value :=
 M.new (.iter x.1 0) fun b0_ =>
 f63c0 X L x b0_

theorem e63 (X : XT) (L : LoopI) (x : (ByteArray) × Unit) : evBody CC { call := X, loop := L } 63 (shsInj [(.cell .string)] x) = f63 X L x := by kernel_rfl

/-- (*strings.Builder).WriteRune -/
def f64c0 (X : XT) (L : LoopI) (x : (PA) × (Int) × Unit) (a1_ : Addr) : M (Value) :=
 M.load (.cell .slice) 1 (a1_.add 1) fun (x2_ : SL) =>
 M.deref x.1 fun a4_ =>
 M.load (.cell .slice) 1 (a4_.add 1) fun (x5_ : SL) =>
 M.callS (.one (.cell .slice)) (X (.call 79 [(.slice x5_.1 x5_.2.1 x5_.2.2), (.int .i32 x.2.1)])) fun (r6_ : SL) =>
 M.deref x.1 fun a7_ =>
 M.store (a7_.add 1) [(.slice r6_.1 r6_.2.1 r6_.2.2)]
 (M.deref x.1 fun a8_ =>
 M.load (.cell .slice) 1 (a8_.add 1) fun (x9_ : SL) =>
 M.pure (.tuple ⟨[(.int .i64 (subW .i64 ((x9_.2.1 : Nat) : Int) ((x2_.2.1 : Nat) : Int))), .nilIface]⟩))
def f64 (X : XT) (L : LoopI) (x : (PA) × (Int) × Unit) : M Value :=
 M.callS (.tuple []) (X (.call 68 [(.pointer x.1)])) fun (r0_ : Unit) =>
 M.deref x.1 fun a1_ =>
 f64c0 X L x a1_

theorem e64 (X : XT) (L : LoopI) (x : (PA) × (Int) × Unit) : evBody CC { call := X, loop := L } 64 (shsInj [(.cell .ptr), (.cell (.int .i32))] x) = f64 X L x := by kernel_rfl

/-- (*hayrick/shell.reader).plain -/
def f65c0 (X : XT) (L : LoopI) (x : (PA) × Unit) (x1_ : ByteArray) : M (Value) :=
 M.callS (.tuple [(.cell .string), (.cell .string), (.cell .bool)]) (X (.call 45 [(.string x1_), (.string st14)])) fun (r2_ : (ByteArray) × (ByteArray) × (Bool) × Unit) =>
 M.deref x.1 fun a3_ =>
 M.store (a3_.add 0) [(.string r2_.2.1)]
 (M.join (fun (j4_ : Unit) =>
 M.pure (.string r2_.1)) fun go5_ =>
 M.join (fun (j6_ : (Bool) × Unit) =>
 M.ite j6_.1
 (M.deref x.1 fun a8_ =>
 M.store (a8_.add 1) [(.bool true)]
 (go5_ (())))
 (go5_ (()))) fun go7_ =>
 M.ite r2_.2.2.1
 (go7_ ((seq r2_.2.1 st0), ()))
 (go7_ (false, ())))
def f65 (X : XT) (L : LoopI) (x : (PA) × Unit) : M Value :=
 M.deref x.1 fun a0_ =>
 M.load (.cell .string) 1 (a0_.add 0) fun (x1_ : ByteArray) =>
 f65c0 X L x x1_

theorem e65 (X : XT) (L : LoopI) (x : (PA) × Unit) : evBody CC { call := X, loop := L } 65 (shsInj [(.cell .ptr)] x) = f65 X L x := by kernel_rfl

/-- (*hayrick/hayrickref30.Reader).blank -/
def f66c0 (X : XT) (L : LoopI) (x : (PA) × Unit) : M (Value) :=
 M.join (fun (j0_ : (Bool) × Unit) =>
 M.ite j0_.1
 (M.deref x.1 fun a2_ =>
 M.store (a2_.add 1) [(.bool true)]
 (M.pure (.tuple ⟨[]⟩)))
 (M.deref x.1 fun a3_ =>
 M.load (.cell .string) 1 (a3_.add 0) fun (x4_ : ByteArray) =>
 M.guard (upB 1 x4_.size)
 (M.deref x.1 fun a7_ =>
 M.store (a7_.add 0) [(.string (x4_.extract (Int.toNat 1) x4_.size))]
 (M.pure (.tuple ⟨[]⟩))))) fun go1_ =>
 M.deref x.1 fun a8_ =>
 M.load (.cell .string) 1 (a8_.add 0) fun (x9_ : ByteArray) =>
 M.ite (eqB ((x9_.size : Nat) : Int) 0)
 (go1_ (true, ()))
 (M.deref x.1 fun a12_ =>
 M.load (.cell .string) 1 (a12_.add 0) fun (x13_ : ByteArray) =>
 M.guard (inB 0 x13_.size)
 (go1_ ((!(eqB (byteAt x13_ 0) 32)), ())))
def f66 (X : XT) (L : LoopI) (x : (PA) × Unit) : M Value :=
 f66c0 X L x

theorem e66 (X : XT) (L : LoopI) (x : (PA) × Unit) : evBody CC { call := X, loop := L } 66 (shsInj [(.cell .ptr)] x) = f66 X L x := by kernel_rfl

/-- (*hayrick/hayrickref30.Reader).letters -/
def f67c0 (X : XT) (L : LoopI) (x : (PA) × Unit) : M (Value) :=
 M.bind (L (σ := (Int) × Unit) (ρ := ((Int) × Unit) ⊕ (Unit)) (fun s0_ =>
 M.join (fun (j1_ : (Bool) × Unit) =>
 M.ite j1_.1
 (M.pure (.inl ((addW .i64 s0_.1 1), ())))
 (M.pure (.inr (.inl (s0_.1, ()))))) fun go2_ =>
 M.deref x.1 fun a4_ =>
 M.load (.cell .string) 1 (a4_.add 0) fun (x5_ : ByteArray) =>
 M.ite (ltB s0_.1 ((x5_.size : Nat) : Int))
 (M.deref x.1 fun a8_ =>
 M.load (.cell .string) 1 (a8_.add 0) fun (x9_ : ByteArray) =>
 M.guard (inB s0_.1 x9_.size)
 (go2_ ((!(eqB (byteAt x9_ s0_.1) 32)), ())))
 (go2_ (false, ()))) (0, ())) <| M.sum (fun (j12_ : (Int) × Unit) =>
 M.deref x.1 fun a13_ =>
 M.load (.cell .string) 1 (a13_.add 0) fun (x14_ : ByteArray) =>
 M.guard (upB j12_.1 x14_.size)
 (M.deref x.1 fun a17_ =>
 M.load (.cell .string) 1 (a17_.add 0) fun (x18_ : ByteArray) =>
 M.guard (upB j12_.1 x18_.size)
 (M.deref x.1 fun a21_ =>
 M.store (a21_.add 0) [(.string (x18_.extract (Int.toNat j12_.1) x18_.size))]
 (M.pure (.string (x14_.extract 0 (Int.toNat j12_.1))))))) (fun _ => M.stuck)
def f67 (X : XT) (L : LoopI) (x : (PA) × Unit) : M Value :=
 f67c0 X L x

theorem e67 (X : XT) (L : LoopI) (x : (PA) × Unit) : evBody CC { call := X, loop := L } 67 (shsInj [(.cell .ptr)] x) = f67 X L x := by kernel_rfl

/-- (*strings.Builder).copyCheck -/
def f68 (X : XT) (L : LoopI) (x : (PA) × Unit) : M Value :=
 M.deref x.1 fun a0_ =>
 M.load (.cell .ptr) 1 (a0_.add 0) fun (x1_ : PA) =>
 M.eqPtr x1_ none fun (q2_ : Bool) =>
 M.ite q2_
 (aConvert PP 83 127 (.pointer x.1) fun (w3_ : Value) =>
 aConvert PP 127 83 w3_ fun (w4_ : Value) =>
 M.deref x.1 fun a5_ =>
 M.store (a5_.add 0) [w4_]
 (M.pure (.tuple ⟨[]⟩)))
 (M.deref x.1 fun a6_ =>
 M.load (.cell .ptr) 1 (a6_.add 0) fun (x7_ : PA) =>
 M.eqPtr x7_ x.1 fun (q8_ : Bool) =>
 M.ite (!q8_)
 (M.stuck)
 (M.pure (.tuple ⟨[]⟩)))

theorem e68 (X : XT) (L : LoopI) (x : (PA) × Unit) : evBody CC { call := X, loop := L } 68 (shsInj [(.cell .ptr)] x) = f68 X L x := by kernel_rfl

/-- strings.Split -/
def f69 (X : XT) (L : LoopI) (x : (ByteArray) × (ByteArray) × Unit) : M Value :=
 M.callS (.one (.cell .slice)) (X (.call 81 [(.string x.1), (.string x.2.1), (.int .i64 0), (.int .i64 (-1))])) fun (r0_ : SL) =>
 M.pure (.slice r0_.1 r0_.2.1 r0_.2.2)

theorem e69 (X : XT) (L : LoopI) (x : (ByteArray) × (ByteArray) × Unit) : evBody CC { call := X, loop := L } 69 (shsInj [(.cell .string), (.cell .string)] x) = f69 X L x := by kernel_rfl

/-- internal/strconv.Itoa -/
def f70 (X : XT) (L : LoopI) (x : (Int) × Unit) : M Value :=
 M.callS (.one (.cell .string)) (X (.call 82 [(.int .i64 x.1), (.int .i64 10)])) fun (r0_ : ByteArray) =>
 M.pure (.string r0_)

theorem e70 (X : XT) (L : LoopI) (x : (Int) × Unit) : evBody CC { call := X, loop := L } 70 (shsInj [(.cell (.int .i64))] x) = f70 X L x := by kernel_rfl

/-- hayrick/hayrickref10.Rune -/
def f71c0 (X : XT) (L : LoopI) (x : (ByteArray) × Unit) (j4_ : (Int) × (Int) × (Int) × Unit) (s8_ : (Int) × (Int) × Unit) : M (((Int) × (Int) × Unit) ⊕ (((Int) × Unit) ⊕ (((Int) × (Int) × (Bool) × Unit) ⊕ (Unit)))) :=
 M.ite (ltB s8_.2.1 j4_.1)
 (M.join (fun (j10_ : (Bool) × Unit) =>
 M.ite j10_.1
 (M.pure (.inr (.inr (.inl (65533, 1, true, ())))))
 (M.guard (inB s8_.2.1 x.1.size)
 (M.pure (.inl ((subW .i64 (addW .i64 (mulW .i64 64 s8_.1) (wrapW .i64 (byteAt x.1 s8_.2.1))) 128), (addW .i64 s8_.2.1 1), ()))))) fun go11_ =>
 M.guard (inB s8_.2.1 x.1.size)
 (M.ite (ltB (byteAt x.1 s8_.2.1) 128)
 (go11_ (true, ()))
 (M.guard (inB s8_.2.1 x.1.size)
 (go11_ ((ltB 191 (byteAt x.1 s8_.2.1)), ())))))
 (M.pure (.inr (.inl (s8_.1, ()))))
def f71c1 (X : XT) (L : LoopI) (x : (ByteArray) × Unit) (j4_ : (Int) × (Int) × (Int) × Unit) : M (Value) :=
 M.bind (L (σ := (Int) × (Int) × Unit) (ρ := ((Int) × Unit) ⊕ (((Int) × (Int) × (Bool) × Unit) ⊕ (Unit))) (fun s8_ =>
 f71c0 X L x j4_ s8_) (j4_.2.2.1, 1, ())) <| M.sum (fun (j22_ : (Int) × Unit) =>
 M.join (fun (j23_ : (Bool) × Unit) =>
 M.ite j23_.1
 (M.pure (.tuple ⟨[(.int .i32 65533), (.int .i64 1), (.bool true)]⟩))
 (M.pure (.tuple ⟨[(.int .i32 (wrapW .i32 j22_.1)), (.int .i64 j4_.1), (.bool false)]⟩))) fun go24_ =>
 M.ite (ltB j22_.1 j4_.2.1)
 (go24_ (true, ()))
 (M.ite (ltB 1114111 j22_.1)
 (go24_ (true, ()))
 (M.ite (leB 55296 j22_.1)
 (go24_ ((ltB j22_.1 57344), ()))
 (go24_ (false, ()))))) (M.sum (fun (j30_ : (Int) × (Int) × (Bool) × Unit) =>
 M.pure (.tuple ⟨[(.int .i32 j30_.1), (.int .i64 j30_.2.1), (.bool j30_.2.2.1)]⟩)) (fun _ => M.stuck))
def f71c2 (X : XT) (L : LoopI) (v1_ : Int) (go5_ : ((Int) × (Int) × (Int) × Unit) → M (Value)) : M (Value) :=
 M.join (fun (j34_ : (Bool) × Unit) =>
 M.ite j34_.1
 (go5_ (2, 128, (subW .i64 v1_ 192), ()))
 (M.join (fun (j37_ : (Bool) × Unit) =>
 M.ite j37_.1
 (go5_ (3, 2048, (subW .i64 v1_ 224), ()))
 (M.join (fun (j40_ : (Bool) × Unit) =>
 M.ite j40_.1
 (go5_ (4, 65536, (subW .i64 v1_ 240), ()))
 (go5_ (0, 0, 0, ()))) fun go41_ =>
 M.ite (leB 240 v1_)
 (go41_ ((ltB v1_ 248), ()))
 (go41_ (false, ())))) fun go38_ =>
 M.ite (leB 224 v1_)
 (go38_ ((ltB v1_ 240), ()))
 (go38_ (false, ())))) fun go35_ =>
 M.ite (leB 192 v1_)
 (go35_ ((ltB v1_ 224), ()))
 (go35_ (false, ()))
def f71 (X : XT) (L : LoopI) (x : (ByteArray) × Unit) : M Value :=
 M.guard (inB 0 x.1.size)
 (let v1_ : Int := wrapW .i64 (byteAt x.1 0)
 M.ite (ltB v1_ 128)
 (M.pure (.tuple ⟨[(.int .i32 (wrapW .i32 v1_)), (.int .i64 1), (.bool false)]⟩))
 (M.join (fun (j4_ : (Int) × (Int) × (Int) × Unit) =>
 M.join (fun (j6_ : (Bool) × Unit) =>
 M.ite j6_.1
 (M.pure (.tuple ⟨[(.int .i32 65533), (.int .i64 1), (.bool true)]⟩))
 (f71c1 X L x j4_)) fun go7_ =>
 M.ite (eqB j4_.1 0)
 (go7_ (true, ()))
 (go7_ ((ltB ((x.1.size : Nat) : Int) j4_.1), ()))) fun go5_ =>
 f71c2 X L v1_ go5_))

theorem e71 (X : XT) (L : LoopI) (x : (ByteArray) × Unit) : evBody CC { call := X, loop := L } 71 (shsInj [(.cell .string)] x) = f71 X L x := by kernel_rfl

/-- internal/stringslite.Cut -/
def f72 (X : XT) (L : LoopI) (x : (ByteArray) × (ByteArray) × Unit) : M Value :=
 M.callS (.one (.cell (.int .i64))) (X (.call 83 [(.string x.1), (.string x.2.1)])) fun (r0_ : Int) =>
 M.ite (leB 0 r0_)
 (M.guard (upB r0_ x.1.size)
 (let v5_ : Int := addW .i64 r0_ ((x.2.1.size : Nat) : Int)
 M.guard (upB v5_ x.1.size)
 (M.pure (.tuple ⟨[(.string (x.1.extract 0 (Int.toNat r0_))), (.string (x.1.extract (Int.toNat v5_) x.1.size)), (.bool true)]⟩))))
 (M.pure (.tuple ⟨[(.string x.1), (.string st0), (.bool false)]⟩))

theorem e72 (X : XT) (L : LoopI) (x : (ByteArray) × (ByteArray) × Unit) : evBody CC { call := X, loop := L } 72 (shsInj [(.cell .string), (.cell .string)] x) = f72 X L x := by kernel_rfl

/-- slices.Index[[]string,string] -/
def f73c0 (X : XT) (L : LoopI) (x : (SL) × (ByteArray) × Unit) (v0_ : Int) : M (Value) :=
 M.bind (L (σ := (Int) × Unit) (ρ := (Unit) ⊕ (((Int) × Unit) ⊕ (Unit))) (fun s1_ =>
 M.ite (ltB s1_.1 v0_)
 (M.guard (inB s1_.1 x.1.2.1)
 (M.deref x.1.1 fun a3_ =>
 M.load (.cell .string) 1 (a3_.add ((Int.toNat s1_.1) * 1)) fun (x4_ : ByteArray) =>
 M.ite (seq x.2.1 x4_)
 (M.pure (.inr (.inr (.inl (s1_.1, ())))))
 (M.pure (.inl ((addW .i64 s1_.1 1), ())))))
 (M.pure (.inr (.inl (()))))) (0, ())) <| M.sum (fun (j7_ : Unit) =>
 M.pure (.int .i64 (-1))) (M.sum (fun (j8_ : (Int) × Unit) =>
 M.pure (.int .i64 j8_.1)) (fun _ => M.stuck))
def f73 (X : XT) (L : LoopI) (x : (SL) × (ByteArray) × Unit) : M Value :=
 f73c0 X L x ((x.1.2.1 : Nat) : Int)

theorem e73 (X : XT) (L : LoopI) (x : (SL) × (ByteArray) × Unit) : evBody CC { call := X, loop := L } 73 (shsInj [(.cell .slice), (.cell .string)] x) = f73 X L x := by kernel_rfl

/-- strconv.Atoi -/
def f74 (X : XT) (L : LoopI) (x : (ByteArray) × Unit) : M Value :=
 M.callS (.tuple [(.cell (.int .i64)), (.cell .val)]) (X (.call 84 [(.string x.1)])) fun (r0_ : (Int) × (Value) × Unit) =>
 aEql PP 87 false true r0_.2.1 .nilIface fun (q1_ : Bool) =>
 M.ite (!q1_)
 (M.callS (.one (.cell .val)) (X (.call 85 [(.string st49), (.string x.1), (.int .i64 0), (.int .i64 0), r0_.2.1])) fun (r3_ : Value) =>
 M.pure (.tuple ⟨[(.int .i64 r0_.1), r3_]⟩))
 (M.pure (.tuple ⟨[(.int .i64 r0_.1), .nilIface]⟩))

theorem e74 (X : XT) (L : LoopI) (x : (ByteArray) × Unit) : evBody CC { call := X, loop := L } 74 (shsInj [(.cell .string)] x) = f74 X L x := by kernel_rfl

end
end Go.Proofs.YtlcigkdflbfdgaaGreatDoor.sg
