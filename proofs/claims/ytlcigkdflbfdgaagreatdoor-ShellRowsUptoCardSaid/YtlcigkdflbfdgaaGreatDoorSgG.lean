/-
 Each call comes to its text.
-/
import Derived.Test.YtlcigkdflbfdgaaGreatDoorSgT
import Derived.Test.YtlcigkdflbfdgaaGreatDoorEng31
import Derived.KernelRfl
set_option linter.unusedVariables false
namespace Go.Proofs.YtlcigkdflbfdgaaGreatDoor.sg
open Go Go.Eng
noncomputable section
abbrev XX (os : List (Nat × AObj)) : Nat → Task → M Value := iterU CC tr0 LL (sumNum 40 74 148 (keepOs [0, 1, 3, 4, 5] os) (sumTabs 11 (.bool true) (keepOs [0, 1, 3, 4, 5] os)))
variable {os : List (Nat × AObj)} {d : Nat} {A : AW} {Q : Value → AW → Prop}
set_option maxRecDepth 20000 in
theorem t4 (x : (SL) × (ByteArray) × Unit) (h : ∀ n, d ≤ n → Ev (f4 (XX os n) LL x) A Q) : Goes (XX os) (d + 1) 4 (shsInj [(.cell .slice), (.cell .string)] x) A Q := Goes.of_text (e := en4) (sumNum_no (by decide) (by decide) (sumTabs_no (by decide))) (by kernel_rfl) (by rfl) h
set_option maxRecDepth 20000 in
theorem t5 (x : (SL) × Unit) (h : ∀ n, d ≤ n → Ev (f5 (XX os n) LL x) A Q) : Goes (XX os) (d + 1) 5 (shsInj [(.cell .slice)] x) A Q := Goes.of_text (e := en5) (sumNum_no (by decide) (by decide) (sumTabs_no (by decide))) (by kernel_rfl) (by rfl) h
set_option maxRecDepth 20000 in
theorem t12 (x : (SL) × Unit) (h : ∀ n, d ≤ n → Ev (f12 (XX os n) LL x) A Q) : Goes (XX os) (d + 1) 12 (shsInj [(.cell .slice)] x) A Q := Goes.of_text (e := en12) (sumNum_no (by decide) (by decide) (sumTabs_no (by decide))) (by kernel_rfl) (by rfl) h
set_option maxRecDepth 20000 in
theorem t13 (x : (SL) × Unit) (h : ∀ n, d ≤ n → Ev (f13 (XX os n) LL x) A Q) : Goes (XX os) (d + 1) 13 (shsInj [(.cell .slice)] x) A Q := Goes.of_text (e := en13) (sumNum_no (by decide) (by decide) (sumTabs_no (by decide))) (by kernel_rfl) (by rfl) h
set_option maxRecDepth 20000 in
theorem t14 (x : (SL) × Unit) (h : ∀ n, d ≤ n → Ev (f14 (XX os n) LL x) A Q) : Goes (XX os) (d + 1) 14 (shsInj [(.cell .slice)] x) A Q := Goes.of_text (e := en14) (sumNum_no (by decide) (by decide) (sumTabs_no (by decide))) (by kernel_rfl) (by rfl) h
set_option maxRecDepth 20000 in
theorem t15 (x : (ByteArray) × Unit) (h : ∀ n, d ≤ n → Ev (f15 (XX os n) LL x) A Q) : Goes (XX os) (d + 1) 15 (shsInj [(.cell .string)] x) A Q := Goes.of_text (e := en15) (sumNum_no (by decide) (by decide) (sumTabs_no (by decide))) (by kernel_rfl) (by rfl) h
set_option maxRecDepth 20000 in
theorem t16 (x : (ByteArray) × Unit) (h : ∀ n, d ≤ n → Ev (f16 (XX os n) LL x) A Q) : Goes (XX os) (d + 1) 16 (shsInj [(.cell .string)] x) A Q := Goes.of_text (e := en16) (sumNum_no (by decide) (by decide) (sumTabs_no (by decide))) (by kernel_rfl) (by rfl) h
set_option maxRecDepth 20000 in
theorem t17 (x : (SL) × (SL) × Unit) (h : ∀ n, d ≤ n → Ev (f17 (XX os n) LL x) A Q) : Goes (XX os) (d + 1) 17 (shsInj [(.cell .slice), (.cell .slice)] x) A Q := Goes.of_text (e := en17) (sumNum_no (by decide) (by decide) (sumTabs_no (by decide))) (by kernel_rfl) (by rfl) h
set_option maxRecDepth 20000 in
theorem t21 (x : (ByteArray) × (Value) × Unit) (h : ∀ n, d ≤ n → Ev (f21 (XX os n) LL x) A Q) : Goes (XX os) (d + 1) 21 (shsInj [(.cell .string), (.cell .val)] x) A Q := Goes.of_text (e := en21) (sumNum_no (by decide) (by decide) (sumTabs_no (by decide))) (by kernel_rfl) (by rfl) h
set_option maxRecDepth 20000 in
theorem t23 (x : (ByteArray) × Unit) (h : ∀ n, d ≤ n → Ev (f23 (XX os n) LL x) A Q) : Goes (XX os) (d + 1) 23 (shsInj [(.cell .string)] x) A Q := Goes.of_text (e := en23) (sumNum_no (by decide) (by decide) (sumTabs_no (by decide))) (by kernel_rfl) (by rfl) h
set_option maxRecDepth 20000 in
theorem t25 (x : (ByteArray) × Unit) (h : ∀ n, d ≤ n → Ev (f25 (XX os n) LL x) A Q) : Goes (XX os) (d + 1) 25 (shsInj [(.cell .string)] x) A Q := Goes.of_text (e := en25) (sumNum_no (by decide) (by decide) (sumTabs_no (by decide))) (by kernel_rfl) (by rfl) h
set_option maxRecDepth 20000 in
theorem t26 (x : (ByteArray) × Unit) (h : ∀ n, d ≤ n → Ev (f26 (XX os n) LL x) A Q) : Goes (XX os) (d + 1) 26 (shsInj [(.cell .string)] x) A Q := Goes.of_text (e := en26) (sumNum_no (by decide) (by decide) (sumTabs_no (by decide))) (by kernel_rfl) (by rfl) h
set_option maxRecDepth 20000 in
theorem t27 (x : (SL) × (Value) × Unit) (h : ∀ n, d ≤ n → Ev (f27 (XX os n) LL x) A Q) : Goes (XX os) (d + 1) 27 (shsInj [(.cell .slice), (.cell .val)] x) A Q := Goes.of_text (e := en27) (sumNum_no (by decide) (by decide) (sumTabs_no (by decide))) (by kernel_rfl) (by rfl) h
set_option maxRecDepth 20000 in
theorem t28 (x : (Int × Int × Bool × SL × Int × Int × Int × Int × SL × Unit) × Unit) (h : ∀ n, d ≤ n → Ev (f28 (XX os n) LL x) A Q) : Goes (XX os) (d + 1) 28 (shsInj [(.agg [(.int .i64), (.int .i64), .bool, .slice, (.int .i64), (.int .i64), (.int .i64), (.int .i64), .slice])] x) A Q := Goes.of_text (e := en28) (sumNum_no (by decide) (by decide) (sumTabs_no (by decide))) (by kernel_rfl) (by rfl) h
set_option maxRecDepth 20000 in
theorem t29 (x : (Int × Int × Bool × SL × Int × Int × Int × Int × SL × Unit) × Unit) (h : ∀ n, d ≤ n → Ev (f29 (XX os n) LL x) A Q) : Goes (XX os) (d + 1) 29 (shsInj [(.agg [(.int .i64), (.int .i64), .bool, .slice, (.int .i64), (.int .i64), (.int .i64), (.int .i64), .slice])] x) A Q := Goes.of_text (e := en29) (sumNum_no (by decide) (by decide) (sumTabs_no (by decide))) (by kernel_rfl) (by rfl) h
set_option maxRecDepth 20000 in
theorem t30 (x : (ByteArray) × (Value) × Unit) (h : ∀ n, d ≤ n → Ev (f30 (XX os n) LL x) A Q) : Goes (XX os) (d + 1) 30 (shsInj [(.cell .string), (.cell .val)] x) A Q := Goes.of_text (e := en30) (sumNum_no (by decide) (by decide) (sumTabs_no (by decide))) (by kernel_rfl) (by rfl) h
set_option maxRecDepth 20000 in
theorem t31 (x : (ByteArray) × Unit) (h : ∀ n, d ≤ n → Ev (f31 (XX os n) LL x) A Q) : Goes (XX os) (d + 1) 31 (shsInj [(.cell .string)] x) A Q := Goes.of_text (e := en31) (sumNum_no (by decide) (by decide) (sumTabs_no (by decide))) (by kernel_rfl) (by rfl) h
set_option maxRecDepth 20000 in
theorem t32 (x : (ByteArray) × Unit) (h : ∀ n, d ≤ n → Ev (f32 (XX os n) LL x) A Q) : Goes (XX os) (d + 1) 32 (shsInj [(.cell .string)] x) A Q := Goes.of_text (e := en32) (sumNum_no (by decide) (by decide) (sumTabs_no (by decide))) (by kernel_rfl) (by rfl) h
set_option maxRecDepth 20000 in
theorem t33 (x : (SL) × (SL) × Unit) (h : ∀ n, d ≤ n → Ev (f33 (XX os n) LL x) A Q) : Goes (XX os) (d + 1) 33 (shsInj [(.cell .slice), (.cell .slice)] x) A Q := Goes.of_text (e := en33) (sumNum_no (by decide) (by decide) (sumTabs_no (by decide))) (by kernel_rfl) (by rfl) h
set_option maxRecDepth 20000 in
theorem t34 (x : (PA) × (ByteArray) × Unit) (h : ∀ n, d ≤ n → Ev (f34 (XX os n) LL x) A Q) : Goes (XX os) (d + 1) 34 (shsInj [(.cell .ptr), (.cell .string)] x) A Q := Goes.of_text (e := en34) (sumNum_no (by decide) (by decide) (sumTabs_no (by decide))) (by kernel_rfl) (by rfl) h
set_option maxRecDepth 20000 in
theorem t35 (x : (PA) × Unit) (h : ∀ n, d ≤ n → Ev (f35 (XX os n) LL x) A Q) : Goes (XX os) (d + 1) 35 (shsInj [(.cell .ptr)] x) A Q := Goes.of_text (e := en35) (sumNum_no (by decide) (by decide) (sumTabs_no (by decide))) (by kernel_rfl) (by rfl) h
set_option maxRecDepth 20000 in
theorem t36 (x : (PA) × Unit) (h : ∀ n, d ≤ n → Ev (f36 (XX os n) LL x) A Q) : Goes (XX os) (d + 1) 36 (shsInj [(.cell .ptr)] x) A Q := Goes.of_text (e := en36) (sumNum_no (by decide) (by decide) (sumTabs_no (by decide))) (by kernel_rfl) (by rfl) h
set_option maxRecDepth 20000 in
theorem t37 (x : (Int) × Unit) (h : ∀ n, d ≤ n → Ev (f37 (XX os n) LL x) A Q) : Goes (XX os) (d + 1) 37 (shsInj [(.cell (.int .i64))] x) A Q := Goes.of_text (e := en37) (sumNum_no (by decide) (by decide) (sumTabs_no (by decide))) (by kernel_rfl) (by rfl) h
set_option maxRecDepth 20000 in
theorem t38 (x : (Int) × Unit) (h : ∀ n, d ≤ n → Ev (f38 (XX os n) LL x) A Q) : Goes (XX os) (d + 1) 38 (shsInj [(.cell (.int .i64))] x) A Q := Goes.of_text (e := en38) (sumNum_no (by decide) (by decide) (sumTabs_no (by decide))) (by kernel_rfl) (by rfl) h
set_option maxRecDepth 20000 in
theorem t42 (x : (Int) × Unit) (h : ∀ n, d ≤ n → Ev (f42 (XX os n) LL x) A Q) : Goes (XX os) (d + 1) 42 (shsInj [(.cell (.int .i64))] x) A Q := Goes.of_text (e := en42) (sumNum_no (by decide) (by decide) (sumTabs_no (by decide))) (by kernel_rfl) (by rfl) h
set_option maxRecDepth 20000 in
theorem t43 (x : (ByteArray) × Unit) (h : ∀ n, d ≤ n → Ev (f43 (XX os n) LL x) A Q) : Goes (XX os) (d + 1) 43 (shsInj [(.cell .string)] x) A Q := Goes.of_text (e := en43) (sumNum_no (by decide) (by decide) (sumTabs_no (by decide))) (by kernel_rfl) (by rfl) h
set_option maxRecDepth 20000 in
theorem t44 (x : (Int) × Unit) (h : ∀ n, d ≤ n → Ev (f44 (XX os n) LL x) A Q) : Goes (XX os) (d + 1) 44 (shsInj [(.cell (.int .i64))] x) A Q := Goes.of_text (e := en44) (sumNum_no (by decide) (by decide) (sumTabs_no (by decide))) (by kernel_rfl) (by rfl) h
set_option maxRecDepth 20000 in
theorem t45 (x : (ByteArray) × (ByteArray) × Unit) (h : ∀ n, d ≤ n → Ev (f45 (XX os n) LL x) A Q) : Goes (XX os) (d + 1) 45 (shsInj [(.cell .string), (.cell .string)] x) A Q := Goes.of_text (e := en45) (sumNum_no (by decide) (by decide) (sumTabs_no (by decide))) (by kernel_rfl) (by rfl) h
set_option maxRecDepth 20000 in
theorem t46 (x : (PA) × Unit) (h : ∀ n, d ≤ n → Ev (f46 (XX os n) LL x) A Q) : Goes (XX os) (d + 1) 46 (shsInj [(.cell .ptr)] x) A Q := Goes.of_text (e := en46) (sumNum_no (by decide) (by decide) (sumTabs_no (by decide))) (by kernel_rfl) (by rfl) h
set_option maxRecDepth 20000 in
theorem t49 (x : (PA) × Unit) (h : ∀ n, d ≤ n → Ev (f49 (XX os n) LL x) A Q) : Goes (XX os) (d + 1) 49 (shsInj [(.cell .ptr)] x) A Q := Goes.of_text (e := en49) (sumNum_no (by decide) (by decide) (sumTabs_no (by decide))) (by kernel_rfl) (by rfl) h
set_option maxRecDepth 20000 in
theorem t51 (x : (PA) × (PA) × Unit) (h : ∀ n, d ≤ n → Ev (f51 (XX os n) LL x) A Q) : Goes (XX os) (d + 1) 51 (shsInj [(.cell .ptr), (.cell .ptr)] x) A Q := Goes.of_text (e := en51) (sumNum_no (by decide) (by decide) (sumTabs_no (by decide))) (by kernel_rfl) (by rfl) h
set_option maxRecDepth 20000 in
theorem t52 (x : (PA) × Unit) (h : ∀ n, d ≤ n → Ev (f52 (XX os n) LL x) A Q) : Goes (XX os) (d + 1) 52 (shsInj [(.cell .ptr)] x) A Q := Goes.of_text (e := en52) (sumNum_no (by decide) (by decide) (sumTabs_no (by decide))) (by kernel_rfl) (by rfl) h
set_option maxRecDepth 20000 in
theorem t53 (x : (PA) × (PA) × Unit) (h : ∀ n, d ≤ n → Ev (f53 (XX os n) LL x) A Q) : Goes (XX os) (d + 1) 53 (shsInj [(.cell .ptr), (.cell .ptr)] x) A Q := Goes.of_text (e := en53) (sumNum_no (by decide) (by decide) (sumTabs_no (by decide))) (by kernel_rfl) (by rfl) h
set_option maxRecDepth 20000 in
theorem t55 (x : (PA) × Unit) (h : ∀ n, d ≤ n → Ev (f55 (XX os n) LL x) A Q) : Goes (XX os) (d + 1) 55 (shsInj [(.cell .ptr)] x) A Q := Goes.of_text (e := en55) (sumNum_no (by decide) (by decide) (sumTabs_no (by decide))) (by kernel_rfl) (by rfl) h
set_option maxRecDepth 20000 in
theorem t56 (x : (PA) × Unit) (h : ∀ n, d ≤ n → Ev (f56 (XX os n) LL x) A Q) : Goes (XX os) (d + 1) 56 (shsInj [(.cell .ptr)] x) A Q := Goes.of_text (e := en56) (sumNum_no (by decide) (by decide) (sumTabs_no (by decide))) (by kernel_rfl) (by rfl) h
set_option maxRecDepth 20000 in
theorem t57 (x : (PA) × Unit) (h : ∀ n, d ≤ n → Ev (f57 (XX os n) LL x) A Q) : Goes (XX os) (d + 1) 57 (shsInj [(.cell .ptr)] x) A Q := Goes.of_text (e := en57) (sumNum_no (by decide) (by decide) (sumTabs_no (by decide))) (by kernel_rfl) (by rfl) h
set_option maxRecDepth 20000 in
theorem t58 (x : (ByteArray) × Unit) (h : ∀ n, d ≤ n → Ev (f58 (XX os n) LL x) A Q) : Goes (XX os) (d + 1) 58 (shsInj [(.cell .string)] x) A Q := Goes.of_text (e := en58) (sumNum_no (by decide) (by decide) (sumTabs_no (by decide))) (by kernel_rfl) (by rfl) h
set_option maxRecDepth 20000 in
theorem t59 (x : (ByteArray) × (ByteArray) × Unit) (h : ∀ n, d ≤ n → Ev (f59 (XX os n) LL x) A Q) : Goes (XX os) (d + 1) 59 (shsInj [(.cell .string), (.cell .string)] x) A Q := Goes.of_text (e := en59) (sumNum_no (by decide) (by decide) (sumTabs_no (by decide))) (by kernel_rfl) (by rfl) h
set_option maxRecDepth 20000 in
theorem t60 (x : (ByteArray) × (Int) × Unit) (h : ∀ n, d ≤ n → Ev (f60 (XX os n) LL x) A Q) : Goes (XX os) (d + 1) 60 (shsInj [(.cell .string), (.cell (.int .u8))] x) A Q := Goes.of_text (e := en60) (sumNum_no (by decide) (by decide) (sumTabs_no (by decide))) (by kernel_rfl) (by rfl) h
set_option maxRecDepth 20000 in
theorem t61 (x : (PA) × (Int) × Unit) (h : ∀ n, d ≤ n → Ev (f61 (XX os n) LL x) A Q) : Goes (XX os) (d + 1) 61 (shsInj [(.cell .ptr), (.cell (.int .u8))] x) A Q := Goes.of_text (e := en61) (sumNum_no (by decide) (by decide) (sumTabs_no (by decide))) (by kernel_rfl) (by rfl) h
set_option maxRecDepth 20000 in
theorem t62 (x : (ByteArray) × Unit) (h : ∀ n, d ≤ n → Ev (f62 (XX os n) LL x) A Q) : Goes (XX os) (d + 1) 62 (shsInj [(.cell .string)] x) A Q := Goes.of_text (e := en62) (sumNum_no (by decide) (by decide) (sumTabs_no (by decide))) (by kernel_rfl) (by rfl) h
set_option maxRecDepth 20000 in
theorem t63 (x : (ByteArray) × Unit) (h : ∀ n, d ≤ n → Ev (f63 (XX os n) LL x) A Q) : Goes (XX os) (d + 1) 63 (shsInj [(.cell .string)] x) A Q := Goes.of_text (e := en63) (sumNum_no (by decide) (by decide) (sumTabs_no (by decide))) (by kernel_rfl) (by rfl) h
set_option maxRecDepth 20000 in
theorem t64 (x : (PA) × (Int) × Unit) (h : ∀ n, d ≤ n → Ev (f64 (XX os n) LL x) A Q) : Goes (XX os) (d + 1) 64 (shsInj [(.cell .ptr), (.cell (.int .i32))] x) A Q := Goes.of_text (e := en64) (sumNum_no (by decide) (by decide) (sumTabs_no (by decide))) (by kernel_rfl) (by rfl) h
set_option maxRecDepth 20000 in
theorem t65 (x : (PA) × Unit) (h : ∀ n, d ≤ n → Ev (f65 (XX os n) LL x) A Q) : Goes (XX os) (d + 1) 65 (shsInj [(.cell .ptr)] x) A Q := Goes.of_text (e := en65) (sumNum_no (by decide) (by decide) (sumTabs_no (by decide))) (by kernel_rfl) (by rfl) h
set_option maxRecDepth 20000 in
theorem t66 (x : (PA) × Unit) (h : ∀ n, d ≤ n → Ev (f66 (XX os n) LL x) A Q) : Goes (XX os) (d + 1) 66 (shsInj [(.cell .ptr)] x) A Q := Goes.of_text (e := en66) (sumNum_no (by decide) (by decide) (sumTabs_no (by decide))) (by kernel_rfl) (by rfl) h
set_option maxRecDepth 20000 in
theorem t67 (x : (PA) × Unit) (h : ∀ n, d ≤ n → Ev (f67 (XX os n) LL x) A Q) : Goes (XX os) (d + 1) 67 (shsInj [(.cell .ptr)] x) A Q := Goes.of_text (e := en67) (sumNum_no (by decide) (by decide) (sumTabs_no (by decide))) (by kernel_rfl) (by rfl) h
set_option maxRecDepth 20000 in
theorem t68 (x : (PA) × Unit) (h : ∀ n, d ≤ n → Ev (f68 (XX os n) LL x) A Q) : Goes (XX os) (d + 1) 68 (shsInj [(.cell .ptr)] x) A Q := Goes.of_text (e := en68) (sumNum_no (by decide) (by decide) (sumTabs_no (by decide))) (by kernel_rfl) (by rfl) h
set_option maxRecDepth 20000 in
theorem t69 (x : (ByteArray) × (ByteArray) × Unit) (h : ∀ n, d ≤ n → Ev (f69 (XX os n) LL x) A Q) : Goes (XX os) (d + 1) 69 (shsInj [(.cell .string), (.cell .string)] x) A Q := Goes.of_text (e := en69) (sumNum_no (by decide) (by decide) (sumTabs_no (by decide))) (by kernel_rfl) (by rfl) h
set_option maxRecDepth 20000 in
theorem t71 (x : (ByteArray) × Unit) (h : ∀ n, d ≤ n → Ev (f71 (XX os n) LL x) A Q) : Goes (XX os) (d + 1) 71 (shsInj [(.cell .string)] x) A Q := Goes.of_text (e := en71) (sumNum_no (by decide) (by decide) (sumTabs_no (by decide))) (by kernel_rfl) (by rfl) h
set_option maxRecDepth 20000 in
theorem t72 (x : (ByteArray) × (ByteArray) × Unit) (h : ∀ n, d ≤ n → Ev (f72 (XX os n) LL x) A Q) : Goes (XX os) (d + 1) 72 (shsInj [(.cell .string), (.cell .string)] x) A Q := Goes.of_text (e := en72) (sumNum_no (by decide) (by decide) (sumTabs_no (by decide))) (by kernel_rfl) (by rfl) h
set_option maxRecDepth 20000 in
theorem t73 (x : (SL) × (ByteArray) × Unit) (h : ∀ n, d ≤ n → Ev (f73 (XX os n) LL x) A Q) : Goes (XX os) (d + 1) 73 (shsInj [(.cell .slice), (.cell .string)] x) A Q := Goes.of_text (e := en73) (sumNum_no (by decide) (by decide) (sumTabs_no (by decide))) (by kernel_rfl) (by rfl) h
set_option maxRecDepth 20000 in
theorem t75 (x : (ByteArray) × Unit) (h : ∀ n, d ≤ n → Ev (f75 (XX os n) LL x) A Q) : Goes (XX os) (d + 1) 75 (shsInj [(.cell .string)] x) A Q := Goes.of_text (e := en75) (sumNum_no (by decide) (by decide) (sumTabs_no (by decide))) (by kernel_rfl) (by rfl) h
set_option maxRecDepth 20000 in
theorem t76 (x : (ByteArray) × (ByteArray) × Unit) (h : ∀ n, d ≤ n → Ev (f76 (XX os n) LL x) A Q) : Goes (XX os) (d + 1) 76 (shsInj [(.cell .string), (.cell .string)] x) A Q := Goes.of_text (e := en76) (sumNum_no (by decide) (by decide) (sumTabs_no (by decide))) (by kernel_rfl) (by rfl) h
set_option maxRecDepth 20000 in
theorem t77 (x : (ByteArray) × (Int) × Unit) (h : ∀ n, d ≤ n → Ev (f77 (XX os n) LL x) A Q) : Goes (XX os) (d + 1) 77 (shsInj [(.cell .string), (.cell (.int .u8))] x) A Q := Goes.of_text (e := en77) (sumNum_no (by decide) (by decide) (sumTabs_no (by decide))) (by kernel_rfl) (by rfl) h
set_option maxRecDepth 20000 in
theorem t78 (x : (ByteArray) × Unit) (h : ∀ n, d ≤ n → Ev (f78 (XX os n) LL x) A Q) : Goes (XX os) (d + 1) 78 (shsInj [(.cell .string)] x) A Q := Goes.of_text (e := en78) (sumNum_no (by decide) (by decide) (sumTabs_no (by decide))) (by kernel_rfl) (by rfl) h
set_option maxRecDepth 20000 in
theorem t79 (x : (SL) × (Int) × Unit) (h : ∀ n, d ≤ n → Ev (f79 (XX os n) LL x) A Q) : Goes (XX os) (d + 1) 79 (shsInj [(.cell .slice), (.cell (.int .i32))] x) A Q := Goes.of_text (e := en79) (sumNum_no (by decide) (by decide) (sumTabs_no (by decide))) (by kernel_rfl) (by rfl) h
set_option maxRecDepth 20000 in
theorem t81 (x : (ByteArray) × (ByteArray) × (Int) × (Int) × Unit) (h : ∀ n, d ≤ n → Ev (f81 (XX os n) LL x) A Q) : Goes (XX os) (d + 1) 81 (shsInj [(.cell .string), (.cell .string), (.cell (.int .i64)), (.cell (.int .i64))] x) A Q := Goes.of_text (e := en81) (sumNum_no (by decide) (by decide) (sumTabs_no (by decide))) (by kernel_rfl) (by rfl) h
set_option maxRecDepth 20000 in
theorem t83 (x : (ByteArray) × (ByteArray) × Unit) (h : ∀ n, d ≤ n → Ev (f83 (XX os n) LL x) A Q) : Goes (XX os) (d + 1) 83 (shsInj [(.cell .string), (.cell .string)] x) A Q := Goes.of_text (e := en83) (sumNum_no (by decide) (by decide) (sumTabs_no (by decide))) (by kernel_rfl) (by rfl) h
set_option maxRecDepth 20000 in
theorem t87 (x : (SL) × (Int) × Unit) (h : ∀ n, d ≤ n → Ev (f87 (XX os n) LL x) A Q) : Goes (XX os) (d + 1) 87 (shsInj [(.cell .slice), (.cell (.int .i32))] x) A Q := Goes.of_text (e := en87) (sumNum_no (by decide) (by decide) (sumTabs_no (by decide))) (by kernel_rfl) (by rfl) h
set_option maxRecDepth 20000 in
theorem t89 (x : (ByteArray) × (ByteArray) × Unit) (h : ∀ n, d ≤ n → Ev (f89 (XX os n) LL x) A Q) : Goes (XX os) (d + 1) 89 (shsInj [(.cell .string), (.cell .string)] x) A Q := Goes.of_text (e := en89) (sumNum_no (by decide) (by decide) (sumTabs_no (by decide))) (by kernel_rfl) (by rfl) h
set_option maxRecDepth 20000 in
theorem t90 (x : (ByteArray) × (ByteArray) × Unit) (h : ∀ n, d ≤ n → Ev (f90 (XX os n) LL x) A Q) : Goes (XX os) (d + 1) 90 (shsInj [(.cell .string), (.cell .string)] x) A Q := Goes.of_text (e := en90) (sumNum_no (by decide) (by decide) (sumTabs_no (by decide))) (by kernel_rfl) (by rfl) h
end
end Go.Proofs.YtlcigkdflbfdgaaGreatDoor.sg
