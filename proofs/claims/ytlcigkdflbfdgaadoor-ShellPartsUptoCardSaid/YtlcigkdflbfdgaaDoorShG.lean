/-
  Each call comes to its text.
-/
import Derived.Test.YtlcigkdflbfdgaaDoorShT
import Derived.Test.YtlcigkdflbfdgaaDoorEng30
import Derived.KernelRfl
set_option linter.unusedVariables false
namespace Go.Proofs.YtlcigkdflbfdgaaDoor.sh
open Go Go.Eng
noncomputable section
abbrev XX (os : List (Nat × AObj)) : Nat → Task → M Value := iterU CC tr0 LL (sumTabs 11 (.bool true) os)
variable {os : List (Nat × AObj)} {d : Nat} {A : AW} {Q : Value → AW → Prop}
set_option maxRecDepth 20000 in
theorem t3 (x : (ByteArray) × (ByteArray) × Unit) (h : ∀ n, d ≤ n → Ev (f3 (XX os n) LL x) A Q) : Goes (XX os) (d + 1) 3 (shsInj [(.cell .string), (.cell .string)] x) A Q := Goes.of_text (e := en3) (sumTabs_no (by decide)) (by kernel_rfl) (by rfl) h
set_option maxRecDepth 20000 in
theorem t4 (x : (ByteArray) × (ByteArray) × (ByteArray) × Unit) (h : ∀ n, d ≤ n → Ev (f4 (XX os n) LL x) A Q) : Goes (XX os) (d + 1) 4 (shsInj [(.cell .string), (.cell .string), (.cell .string)] x) A Q := Goes.of_text (e := en4) (sumTabs_no (by decide)) (by kernel_rfl) (by rfl) h
set_option maxRecDepth 20000 in
theorem t5 (x : (SL) × (SL) × (ByteArray) × Unit) (h : ∀ n, d ≤ n → Ev (f5 (XX os n) LL x) A Q) : Goes (XX os) (d + 1) 5 (shsInj [(.cell .slice), (.cell .slice), (.cell .string)] x) A Q := Goes.of_text (e := en5) (sumTabs_no (by decide)) (by kernel_rfl) (by rfl) h
set_option maxRecDepth 20000 in
theorem t6 (x : (ByteArray) × (ByteArray) × Unit) (h : ∀ n, d ≤ n → Ev (f6 (XX os n) LL x) A Q) : Goes (XX os) (d + 1) 6 (shsInj [(.cell .string), (.cell .string)] x) A Q := Goes.of_text (e := en6) (sumTabs_no (by decide)) (by kernel_rfl) (by rfl) h
set_option maxRecDepth 20000 in
theorem t7 (x : (ByteArray) × Unit) (h : ∀ n, d ≤ n → Ev (f7 (XX os n) LL x) A Q) : Goes (XX os) (d + 1) 7 (shsInj [(.cell .string)] x) A Q := Goes.of_text (e := en7) (sumTabs_no (by decide)) (by kernel_rfl) (by rfl) h
set_option maxRecDepth 20000 in
theorem t8 (x : (ByteArray) × Unit) (h : ∀ n, d ≤ n → Ev (f8 (XX os n) LL x) A Q) : Goes (XX os) (d + 1) 8 (shsInj [(.cell .string)] x) A Q := Goes.of_text (e := en8) (sumTabs_no (by decide)) (by kernel_rfl) (by rfl) h
set_option maxRecDepth 20000 in
theorem t9 (x : (ByteArray) × Unit) (h : ∀ n, d ≤ n → Ev (f9 (XX os n) LL x) A Q) : Goes (XX os) (d + 1) 9 (shsInj [(.cell .string)] x) A Q := Goes.of_text (e := en9) (sumTabs_no (by decide)) (by kernel_rfl) (by rfl) h
set_option maxRecDepth 20000 in
theorem t10 (x : (ByteArray) × Unit) (h : ∀ n, d ≤ n → Ev (f10 (XX os n) LL x) A Q) : Goes (XX os) (d + 1) 10 (shsInj [(.cell .string)] x) A Q := Goes.of_text (e := en10) (sumTabs_no (by decide)) (by kernel_rfl) (by rfl) h
set_option maxRecDepth 20000 in
theorem t12 (x : (SL) × Unit) (h : ∀ n, d ≤ n → Ev (f12 (XX os n) LL x) A Q) : Goes (XX os) (d + 1) 12 (shsInj [(.cell .slice)] x) A Q := Goes.of_text (e := en12) (sumTabs_no (by decide)) (by kernel_rfl) (by rfl) h
set_option maxRecDepth 20000 in
theorem t13 (x : (ByteArray) × Unit) (h : ∀ n, d ≤ n → Ev (f13 (XX os n) LL x) A Q) : Goes (XX os) (d + 1) 13 (shsInj [(.cell .string)] x) A Q := Goes.of_text (e := en13) (sumTabs_no (by decide)) (by kernel_rfl) (by rfl) h
set_option maxRecDepth 20000 in
theorem t14 (x : (SL) × (SL) × Unit) (h : ∀ n, d ≤ n → Ev (f14 (XX os n) LL x) A Q) : Goes (XX os) (d + 1) 14 (shsInj [(.cell .slice), (.cell .slice)] x) A Q := Goes.of_text (e := en14) (sumTabs_no (by decide)) (by kernel_rfl) (by rfl) h
set_option maxRecDepth 20000 in
theorem t15 (x : (SL) × Unit) (h : ∀ n, d ≤ n → Ev (f15 (XX os n) LL x) A Q) : Goes (XX os) (d + 1) 15 (shsInj [(.cell .slice)] x) A Q := Goes.of_text (e := en15) (sumTabs_no (by decide)) (by kernel_rfl) (by rfl) h
set_option maxRecDepth 20000 in
theorem t16 (x : (SL) × Unit) (h : ∀ n, d ≤ n → Ev (f16 (XX os n) LL x) A Q) : Goes (XX os) (d + 1) 16 (shsInj [(.cell .slice)] x) A Q := Goes.of_text (e := en16) (sumTabs_no (by decide)) (by kernel_rfl) (by rfl) h
set_option maxRecDepth 20000 in
theorem t17 (x : (ByteArray) × Unit) (h : ∀ n, d ≤ n → Ev (f17 (XX os n) LL x) A Q) : Goes (XX os) (d + 1) 17 (shsInj [(.cell .string)] x) A Q := Goes.of_text (e := en17) (sumTabs_no (by decide)) (by kernel_rfl) (by rfl) h
set_option maxRecDepth 20000 in
theorem t18 (x : (SL) × (SL) × Unit) (h : ∀ n, d ≤ n → Ev (f18 (XX os n) LL x) A Q) : Goes (XX os) (d + 1) 18 (shsInj [(.cell .slice), (.cell .slice)] x) A Q := Goes.of_text (e := en18) (sumTabs_no (by decide)) (by kernel_rfl) (by rfl) h
set_option maxRecDepth 20000 in
theorem t19 (x : (SL) × Unit) (h : ∀ n, d ≤ n → Ev (f19 (XX os n) LL x) A Q) : Goes (XX os) (d + 1) 19 (shsInj [(.cell .slice)] x) A Q := Goes.of_text (e := en19) (sumTabs_no (by decide)) (by kernel_rfl) (by rfl) h
set_option maxRecDepth 20000 in
theorem t20 (x : (ByteArray) × Unit) (h : ∀ n, d ≤ n → Ev (f20 (XX os n) LL x) A Q) : Goes (XX os) (d + 1) 20 (shsInj [(.cell .string)] x) A Q := Goes.of_text (e := en20) (sumTabs_no (by decide)) (by kernel_rfl) (by rfl) h
set_option maxRecDepth 20000 in
theorem t21 (x : (ByteArray) × (ByteArray) × Unit) (h : ∀ n, d ≤ n → Ev (f21 (XX os n) LL x) A Q) : Goes (XX os) (d + 1) 21 (shsInj [(.cell .string), (.cell .string)] x) A Q := Goes.of_text (e := en21) (sumTabs_no (by decide)) (by kernel_rfl) (by rfl) h
set_option maxRecDepth 20000 in
theorem t22 (x : (ByteArray) × (Int) × Unit) (h : ∀ n, d ≤ n → Ev (f22 (XX os n) LL x) A Q) : Goes (XX os) (d + 1) 22 (shsInj [(.cell .string), (.cell (.int .u8))] x) A Q := Goes.of_text (e := en22) (sumTabs_no (by decide)) (by kernel_rfl) (by rfl) h
set_option maxRecDepth 20000 in
theorem t23 (x : (PA) × (Int) × Unit) (h : ∀ n, d ≤ n → Ev (f23 (XX os n) LL x) A Q) : Goes (XX os) (d + 1) 23 (shsInj [(.cell .ptr), (.cell (.int .u8))] x) A Q := Goes.of_text (e := en23) (sumTabs_no (by decide)) (by kernel_rfl) (by rfl) h
set_option maxRecDepth 20000 in
theorem t24 (x : (ByteArray) × Unit) (h : ∀ n, d ≤ n → Ev (f24 (XX os n) LL x) A Q) : Goes (XX os) (d + 1) 24 (shsInj [(.cell .string)] x) A Q := Goes.of_text (e := en24) (sumTabs_no (by decide)) (by kernel_rfl) (by rfl) h
set_option maxRecDepth 20000 in
theorem t25 (x : (ByteArray) × Unit) (h : ∀ n, d ≤ n → Ev (f25 (XX os n) LL x) A Q) : Goes (XX os) (d + 1) 25 (shsInj [(.cell .string)] x) A Q := Goes.of_text (e := en25) (sumTabs_no (by decide)) (by kernel_rfl) (by rfl) h
set_option maxRecDepth 20000 in
theorem t26 (x : (PA) × (ByteArray) × Unit) (h : ∀ n, d ≤ n → Ev (f26 (XX os n) LL x) A Q) : Goes (XX os) (d + 1) 26 (shsInj [(.cell .ptr), (.cell .string)] x) A Q := Goes.of_text (e := en26) (sumTabs_no (by decide)) (by kernel_rfl) (by rfl) h
set_option maxRecDepth 20000 in
theorem t27 (x : (PA) × (Int) × Unit) (h : ∀ n, d ≤ n → Ev (f27 (XX os n) LL x) A Q) : Goes (XX os) (d + 1) 27 (shsInj [(.cell .ptr), (.cell (.int .i32))] x) A Q := Goes.of_text (e := en27) (sumTabs_no (by decide)) (by kernel_rfl) (by rfl) h
set_option maxRecDepth 20000 in
theorem t28 (x : (PA) × Unit) (h : ∀ n, d ≤ n → Ev (f28 (XX os n) LL x) A Q) : Goes (XX os) (d + 1) 28 (shsInj [(.cell .ptr)] x) A Q := Goes.of_text (e := en28) (sumTabs_no (by decide)) (by kernel_rfl) (by rfl) h
set_option maxRecDepth 20000 in
theorem t29 (x : (ByteArray) × Unit) (h : ∀ n, d ≤ n → Ev (f29 (XX os n) LL x) A Q) : Goes (XX os) (d + 1) 29 (shsInj [(.cell .string)] x) A Q := Goes.of_text (e := en29) (sumTabs_no (by decide)) (by kernel_rfl) (by rfl) h
set_option maxRecDepth 20000 in
theorem t30 (x : (SL) × (Value) × Unit) (h : ∀ n, d ≤ n → Ev (f30 (XX os n) LL x) A Q) : Goes (XX os) (d + 1) 30 (shsInj [(.cell .slice), (.cell .val)] x) A Q := Goes.of_text (e := en30) (sumTabs_no (by decide)) (by kernel_rfl) (by rfl) h
set_option maxRecDepth 20000 in
theorem t31 (x : (Int × ByteArray × ByteArray × Int × Int × SL × Unit) × Unit) (h : ∀ n, d ≤ n → Ev (f31 (XX os n) LL x) A Q) : Goes (XX os) (d + 1) 31 (shsInj [(.agg [(.int .i64), .string, .string, (.int .i64), (.int .i64), .slice])] x) A Q := Goes.of_text (e := en31) (sumTabs_no (by decide)) (by kernel_rfl) (by rfl) h
set_option maxRecDepth 20000 in
theorem t32 (x : (ByteArray) × (Value) × Unit) (h : ∀ n, d ≤ n → Ev (f32 (XX os n) LL x) A Q) : Goes (XX os) (d + 1) 32 (shsInj [(.cell .string), (.cell .val)] x) A Q := Goes.of_text (e := en32) (sumTabs_no (by decide)) (by kernel_rfl) (by rfl) h
set_option maxRecDepth 20000 in
theorem t33 (x : (ByteArray) × Unit) (h : ∀ n, d ≤ n → Ev (f33 (XX os n) LL x) A Q) : Goes (XX os) (d + 1) 33 (shsInj [(.cell .string)] x) A Q := Goes.of_text (e := en33) (sumTabs_no (by decide)) (by kernel_rfl) (by rfl) h
set_option maxRecDepth 20000 in
theorem t34 (x : (SL) × (Value) × Unit) (h : ∀ n, d ≤ n → Ev (f34 (XX os n) LL x) A Q) : Goes (XX os) (d + 1) 34 (shsInj [(.cell .slice), (.cell .val)] x) A Q := Goes.of_text (e := en34) (sumTabs_no (by decide)) (by kernel_rfl) (by rfl) h
set_option maxRecDepth 20000 in
theorem t35 (x : (Int × Int × Bool × SL × Int × Int × Int × Int × SL × Unit) × Unit) (h : ∀ n, d ≤ n → Ev (f35 (XX os n) LL x) A Q) : Goes (XX os) (d + 1) 35 (shsInj [(.agg [(.int .i64), (.int .i64), .bool, .slice, (.int .i64), (.int .i64), (.int .i64), (.int .i64), .slice])] x) A Q := Goes.of_text (e := en35) (sumTabs_no (by decide)) (by kernel_rfl) (by rfl) h
set_option maxRecDepth 20000 in
theorem t36 (x : (ByteArray) × (Value) × Unit) (h : ∀ n, d ≤ n → Ev (f36 (XX os n) LL x) A Q) : Goes (XX os) (d + 1) 36 (shsInj [(.cell .string), (.cell .val)] x) A Q := Goes.of_text (e := en36) (sumTabs_no (by decide)) (by kernel_rfl) (by rfl) h
set_option maxRecDepth 20000 in
theorem t37 (x : (ByteArray) × Unit) (h : ∀ n, d ≤ n → Ev (f37 (XX os n) LL x) A Q) : Goes (XX os) (d + 1) 37 (shsInj [(.cell .string)] x) A Q := Goes.of_text (e := en37) (sumTabs_no (by decide)) (by kernel_rfl) (by rfl) h
set_option maxRecDepth 20000 in
theorem t38 (x : (SL) × (SL) × Unit) (h : ∀ n, d ≤ n → Ev (f38 (XX os n) LL x) A Q) : Goes (XX os) (d + 1) 38 (shsInj [(.cell .slice), (.cell .slice)] x) A Q := Goes.of_text (e := en38) (sumTabs_no (by decide)) (by kernel_rfl) (by rfl) h
set_option maxRecDepth 20000 in
theorem t39 (x : (ByteArray) × (ByteArray) × Unit) (h : ∀ n, d ≤ n → Ev (f39 (XX os n) LL x) A Q) : Goes (XX os) (d + 1) 39 (shsInj [(.cell .string), (.cell .string)] x) A Q := Goes.of_text (e := en39) (sumTabs_no (by decide)) (by kernel_rfl) (by rfl) h
set_option maxRecDepth 20000 in
theorem t40 (x : (ByteArray) × (Int) × Unit) (h : ∀ n, d ≤ n → Ev (f40 (XX os n) LL x) A Q) : Goes (XX os) (d + 1) 40 (shsInj [(.cell .string), (.cell (.int .u8))] x) A Q := Goes.of_text (e := en40) (sumTabs_no (by decide)) (by kernel_rfl) (by rfl) h
set_option maxRecDepth 20000 in
theorem t41 (x : (PA) × Unit) (h : ∀ n, d ≤ n → Ev (f41 (XX os n) LL x) A Q) : Goes (XX os) (d + 1) 41 (shsInj [(.cell .ptr)] x) A Q := Goes.of_text (e := en41) (sumTabs_no (by decide)) (by kernel_rfl) (by rfl) h
set_option maxRecDepth 20000 in
theorem t42 (x : (ByteArray) × Unit) (h : ∀ n, d ≤ n → Ev (f42 (XX os n) LL x) A Q) : Goes (XX os) (d + 1) 42 (shsInj [(.cell .string)] x) A Q := Goes.of_text (e := en42) (sumTabs_no (by decide)) (by kernel_rfl) (by rfl) h
set_option maxRecDepth 20000 in
theorem t43 (x : (SL) × (Int) × Unit) (h : ∀ n, d ≤ n → Ev (f43 (XX os n) LL x) A Q) : Goes (XX os) (d + 1) 43 (shsInj [(.cell .slice), (.cell (.int .i32))] x) A Q := Goes.of_text (e := en43) (sumTabs_no (by decide)) (by kernel_rfl) (by rfl) h
set_option maxRecDepth 20000 in
theorem t44 (x : (PA) × Unit) (h : ∀ n, d ≤ n → Ev (f44 (XX os n) LL x) A Q) : Goes (XX os) (d + 1) 44 (shsInj [(.cell .ptr)] x) A Q := Goes.of_text (e := en44) (sumTabs_no (by decide)) (by kernel_rfl) (by rfl) h
set_option maxRecDepth 20000 in
theorem t45 (x : (Int) × Unit) (h : ∀ n, d ≤ n → Ev (f45 (XX os n) LL x) A Q) : Goes (XX os) (d + 1) 45 (shsInj [(.cell (.int .i64))] x) A Q := Goes.of_text (e := en45) (sumTabs_no (by decide)) (by kernel_rfl) (by rfl) h
set_option maxRecDepth 20000 in
theorem t46 (x : (Int) × Unit) (h : ∀ n, d ≤ n → Ev (f46 (XX os n) LL x) A Q) : Goes (XX os) (d + 1) 46 (shsInj [(.cell (.int .i64))] x) A Q := Goes.of_text (e := en46) (sumTabs_no (by decide)) (by kernel_rfl) (by rfl) h
set_option maxRecDepth 20000 in
theorem t47 (x : (Bool) × (ByteArray) × (PA) × Unit) (h : ∀ n, d ≤ n → Ev (f47 (XX os n) LL x) A Q) : Goes (XX os) (d + 1) 47 (shsInj [(.cell .bool), (.cell .string), (.cell .ptr)] x) A Q := Goes.of_text (e := en47) (sumTabs_no (by decide)) (by kernel_rfl) (by rfl) h
set_option maxRecDepth 20000 in
theorem t48 (x : (Int) × Unit) (h : ∀ n, d ≤ n → Ev (f48 (XX os n) LL x) A Q) : Goes (XX os) (d + 1) 48 (shsInj [(.cell (.int .i64))] x) A Q := Goes.of_text (e := en48) (sumTabs_no (by decide)) (by kernel_rfl) (by rfl) h
set_option maxRecDepth 20000 in
theorem t49 (x : (ByteArray) × (ByteArray) × Unit) (h : ∀ n, d ≤ n → Ev (f49 (XX os n) LL x) A Q) : Goes (XX os) (d + 1) 49 (shsInj [(.cell .string), (.cell .string)] x) A Q := Goes.of_text (e := en49) (sumTabs_no (by decide)) (by kernel_rfl) (by rfl) h
set_option maxRecDepth 20000 in
theorem t50 (x : (PA) × Unit) (h : ∀ n, d ≤ n → Ev (f50 (XX os n) LL x) A Q) : Goes (XX os) (d + 1) 50 (shsInj [(.cell .ptr)] x) A Q := Goes.of_text (e := en50) (sumTabs_no (by decide)) (by kernel_rfl) (by rfl) h
set_option maxRecDepth 20000 in
theorem t51 (x : (Bool) × (Value) × (PA) × Unit) (h : ∀ n, d ≤ n → Ev (f51 (XX os n) LL x) A Q) : Goes (XX os) (d + 1) 51 (shsInj [(.cell .bool), (.cell .val), (.cell .ptr)] x) A Q := Goes.of_text (e := en51) (sumTabs_no (by decide)) (by kernel_rfl) (by rfl) h
set_option maxRecDepth 20000 in
theorem t52 (x : (PA) × (PA) × Unit) (h : ∀ n, d ≤ n → Ev (f52 (XX os n) LL x) A Q) : Goes (XX os) (d + 1) 52 (shsInj [(.cell .ptr), (.cell .ptr)] x) A Q := Goes.of_text (e := en52) (sumTabs_no (by decide)) (by kernel_rfl) (by rfl) h
set_option maxRecDepth 20000 in
theorem t53 (x : (PA) × Unit) (h : ∀ n, d ≤ n → Ev (f53 (XX os n) LL x) A Q) : Goes (XX os) (d + 1) 53 (shsInj [(.cell .ptr)] x) A Q := Goes.of_text (e := en53) (sumTabs_no (by decide)) (by kernel_rfl) (by rfl) h
set_option maxRecDepth 20000 in
theorem t54 (x : (PA) × (PA) × Unit) (h : ∀ n, d ≤ n → Ev (f54 (XX os n) LL x) A Q) : Goes (XX os) (d + 1) 54 (shsInj [(.cell .ptr), (.cell .ptr)] x) A Q := Goes.of_text (e := en54) (sumTabs_no (by decide)) (by kernel_rfl) (by rfl) h
set_option maxRecDepth 20000 in
theorem t55 (x : (PA) × (PA) × Unit) (h : ∀ n, d ≤ n → Ev (f55 (XX os n) LL x) A Q) : Goes (XX os) (d + 1) 55 (shsInj [(.cell .ptr), (.cell .ptr)] x) A Q := Goes.of_text (e := en55) (sumTabs_no (by decide)) (by kernel_rfl) (by rfl) h
set_option maxRecDepth 20000 in
theorem t56 (x : (PA) × Unit) (h : ∀ n, d ≤ n → Ev (f56 (XX os n) LL x) A Q) : Goes (XX os) (d + 1) 56 (shsInj [(.cell .ptr)] x) A Q := Goes.of_text (e := en56) (sumTabs_no (by decide)) (by kernel_rfl) (by rfl) h
set_option maxRecDepth 20000 in
theorem t57 (x : (PA) × (PA) × Unit) (h : ∀ n, d ≤ n → Ev (f57 (XX os n) LL x) A Q) : Goes (XX os) (d + 1) 57 (shsInj [(.cell .ptr), (.cell .ptr)] x) A Q := Goes.of_text (e := en57) (sumTabs_no (by decide)) (by kernel_rfl) (by rfl) h
set_option maxRecDepth 20000 in
theorem t58 (x : (PA) × (PA) × Unit) (h : ∀ n, d ≤ n → Ev (f58 (XX os n) LL x) A Q) : Goes (XX os) (d + 1) 58 (shsInj [(.cell .ptr), (.cell .ptr)] x) A Q := Goes.of_text (e := en58) (sumTabs_no (by decide)) (by kernel_rfl) (by rfl) h
set_option maxRecDepth 20000 in
theorem t59 (x : (PA) × Unit) (h : ∀ n, d ≤ n → Ev (f59 (XX os n) LL x) A Q) : Goes (XX os) (d + 1) 59 (shsInj [(.cell .ptr)] x) A Q := Goes.of_text (e := en59) (sumTabs_no (by decide)) (by kernel_rfl) (by rfl) h
set_option maxRecDepth 20000 in
theorem t62 (x : (SL) × (Int) × Unit) (h : ∀ n, d ≤ n → Ev (f62 (XX os n) LL x) A Q) : Goes (XX os) (d + 1) 62 (shsInj [(.cell .slice), (.cell (.int .i32))] x) A Q := Goes.of_text (e := en62) (sumTabs_no (by decide)) (by kernel_rfl) (by rfl) h
set_option maxRecDepth 20000 in
theorem t63 (x : (ByteArray) × (ByteArray) × Unit) (h : ∀ n, d ≤ n → Ev (f63 (XX os n) LL x) A Q) : Goes (XX os) (d + 1) 63 (shsInj [(.cell .string), (.cell .string)] x) A Q := Goes.of_text (e := en63) (sumTabs_no (by decide)) (by kernel_rfl) (by rfl) h
set_option maxRecDepth 20000 in
theorem t64 (x : (Int) × Unit) (h : ∀ n, d ≤ n → Ev (f64 (XX os n) LL x) A Q) : Goes (XX os) (d + 1) 64 (shsInj [(.cell (.int .i64))] x) A Q := Goes.of_text (e := en64) (sumTabs_no (by decide)) (by kernel_rfl) (by rfl) h
set_option maxRecDepth 20000 in
theorem t65 (x : (ByteArray) × (ByteArray) × Unit) (h : ∀ n, d ≤ n → Ev (f65 (XX os n) LL x) A Q) : Goes (XX os) (d + 1) 65 (shsInj [(.cell .string), (.cell .string)] x) A Q := Goes.of_text (e := en65) (sumTabs_no (by decide)) (by kernel_rfl) (by rfl) h
set_option maxRecDepth 20000 in
theorem t66 (x : (SL) × (ByteArray) × Unit) (h : ∀ n, d ≤ n → Ev (f66 (XX os n) LL x) A Q) : Goes (XX os) (d + 1) 66 (shsInj [(.cell .slice), (.cell .string)] x) A Q := Goes.of_text (e := en66) (sumTabs_no (by decide)) (by kernel_rfl) (by rfl) h
set_option maxRecDepth 20000 in
theorem t67 (x : (ByteArray) × Unit) (h : ∀ n, d ≤ n → Ev (f67 (XX os n) LL x) A Q) : Goes (XX os) (d + 1) 67 (shsInj [(.cell .string)] x) A Q := Goes.of_text (e := en67) (sumTabs_no (by decide)) (by kernel_rfl) (by rfl) h
set_option maxRecDepth 20000 in
theorem t68 (x : (ByteArray) × (ByteArray) × (Int) × (Int) × Unit) (h : ∀ n, d ≤ n → Ev (f68 (XX os n) LL x) A Q) : Goes (XX os) (d + 1) 68 (shsInj [(.cell .string), (.cell .string), (.cell (.int .i64)), (.cell (.int .i64))] x) A Q := Goes.of_text (e := en68) (sumTabs_no (by decide)) (by kernel_rfl) (by rfl) h
set_option maxRecDepth 20000 in
theorem t69 (x : (Int) × (Int) × Unit) (h : ∀ n, d ≤ n → Ev (f69 (XX os n) LL x) A Q) : Goes (XX os) (d + 1) 69 (shsInj [(.cell (.int .i64)), (.cell (.int .i64))] x) A Q := Goes.of_text (e := en69) (sumTabs_no (by decide)) (by kernel_rfl) (by rfl) h
set_option maxRecDepth 20000 in
theorem t70 (x : (ByteArray) × (ByteArray) × Unit) (h : ∀ n, d ≤ n → Ev (f70 (XX os n) LL x) A Q) : Goes (XX os) (d + 1) 70 (shsInj [(.cell .string), (.cell .string)] x) A Q := Goes.of_text (e := en70) (sumTabs_no (by decide)) (by kernel_rfl) (by rfl) h
set_option maxRecDepth 20000 in
theorem t71 (x : (ByteArray) × Unit) (h : ∀ n, d ≤ n → Ev (f71 (XX os n) LL x) A Q) : Goes (XX os) (d + 1) 71 (shsInj [(.cell .string)] x) A Q := Goes.of_text (e := en71) (sumTabs_no (by decide)) (by kernel_rfl) (by rfl) h
set_option maxRecDepth 20000 in
theorem t72 (x : (ByteArray) × (ByteArray) × (Int) × (Int) × (Value) × Unit) (h : ∀ n, d ≤ n → Ev (f72 (XX os n) LL x) A Q) : Goes (XX os) (d + 1) 72 (shsInj [(.cell .string), (.cell .string), (.cell (.int .i64)), (.cell (.int .i64)), (.cell .val)] x) A Q := Goes.of_text (e := en72) (sumTabs_no (by decide)) (by kernel_rfl) (by rfl) h
set_option maxRecDepth 20000 in
theorem t73 (x : (ByteArray) × (Int) × Unit) (h : ∀ n, d ≤ n → Ev (f73 (XX os n) LL x) A Q) : Goes (XX os) (d + 1) 73 (shsInj [(.cell .string), (.cell (.int .i64))] x) A Q := Goes.of_text (e := en73) (sumTabs_no (by decide)) (by kernel_rfl) (by rfl) h
set_option maxRecDepth 20000 in
theorem t74 (x : (ByteArray) × (ByteArray) × Unit) (h : ∀ n, d ≤ n → Ev (f74 (XX os n) LL x) A Q) : Goes (XX os) (d + 1) 74 (shsInj [(.cell .string), (.cell .string)] x) A Q := Goes.of_text (e := en74) (sumTabs_no (by decide)) (by kernel_rfl) (by rfl) h
set_option maxRecDepth 20000 in
theorem t75 (x : (ByteArray) × (ByteArray) × Unit) (h : ∀ n, d ≤ n → Ev (f75 (XX os n) LL x) A Q) : Goes (XX os) (d + 1) 75 (shsInj [(.cell .string), (.cell .string)] x) A Q := Goes.of_text (e := en75) (sumTabs_no (by decide)) (by kernel_rfl) (by rfl) h
set_option maxRecDepth 20000 in
theorem t76 (x : (Int) × Unit) (h : ∀ n, d ≤ n → Ev (f76 (XX os n) LL x) A Q) : Goes (XX os) (d + 1) 76 (shsInj [(.cell (.int .i64))] x) A Q := Goes.of_text (e := en76) (sumTabs_no (by decide)) (by kernel_rfl) (by rfl) h
set_option maxRecDepth 20000 in
theorem t77 (x : (Int) × Unit) (h : ∀ n, d ≤ n → Ev (f77 (XX os n) LL x) A Q) : Goes (XX os) (d + 1) 77 (shsInj [(.cell (.int .u64))] x) A Q := Goes.of_text (e := en77) (sumTabs_no (by decide)) (by kernel_rfl) (by rfl) h
set_option maxRecDepth 20000 in
theorem t78 (x : (SL) × (Int) × Unit) (h : ∀ n, d ≤ n → Ev (f78 (XX os n) LL x) A Q) : Goes (XX os) (d + 1) 78 (shsInj [(.cell .slice), (.cell (.int .u64))] x) A Q := Goes.of_text (e := en78) (sumTabs_no (by decide)) (by kernel_rfl) (by rfl) h
set_option maxRecDepth 20000 in
theorem t79 (x : (SL) × (Int) × (Int) × (Bool) × (Bool) × Unit) (h : ∀ n, d ≤ n → Ev (f79 (XX os n) LL x) A Q) : Goes (XX os) (d + 1) 79 (shsInj [(.cell .slice), (.cell (.int .u64)), (.cell (.int .i64)), (.cell .bool), (.cell .bool)] x) A Q := Goes.of_text (e := en79) (sumTabs_no (by decide)) (by kernel_rfl) (by rfl) h
set_option maxRecDepth 20000 in
theorem t81 (x : (Int) × Unit) (h : ∀ n, d ≤ n → Ev (f81 (XX os n) LL x) A Q) : Goes (XX os) (d + 1) 81 (shsInj [(.cell (.int .i64))] x) A Q := Goes.of_text (e := en81) (sumTabs_no (by decide)) (by kernel_rfl) (by rfl) h
set_option maxRecDepth 20000 in
theorem t82 (x : (ByteArray) × (ByteArray) × Unit) (h : ∀ n, d ≤ n → Ev (f82 (XX os n) LL x) A Q) : Goes (XX os) (d + 1) 82 (shsInj [(.cell .string), (.cell .string)] x) A Q := Goes.of_text (e := en82) (sumTabs_no (by decide)) (by kernel_rfl) (by rfl) h
set_option maxRecDepth 20000 in
theorem t83 (x : (ByteArray) × (Int) × (Int) × Unit) (h : ∀ n, d ≤ n → Ev (f83 (XX os n) LL x) A Q) : Goes (XX os) (d + 1) 83 (shsInj [(.cell .string), (.cell (.int .i64)), (.cell (.int .i64))] x) A Q := Goes.of_text (e := en83) (sumTabs_no (by decide)) (by kernel_rfl) (by rfl) h
set_option maxRecDepth 20000 in
theorem t88 (x : (ByteArray) × Unit) (h : ∀ n, d ≤ n → Ev (f88 (XX os n) LL x) A Q) : Goes (XX os) (d + 1) 88 (shsInj [(.cell .string)] x) A Q := Goes.of_text (e := en88) (sumTabs_no (by decide)) (by kernel_rfl) (by rfl) h
set_option maxRecDepth 20000 in
theorem t90 (x : (Int) × Unit) (h : ∀ n, d ≤ n → Ev (f90 (XX os n) LL x) A Q) : Goes (XX os) (d + 1) 90 (shsInj [(.cell (.int .i64))] x) A Q := Goes.of_text (e := en90) (sumTabs_no (by decide)) (by kernel_rfl) (by rfl) h
set_option maxRecDepth 20000 in
theorem t91 (x : (Int) × Unit) (h : ∀ n, d ≤ n → Ev (f91 (XX os n) LL x) A Q) : Goes (XX os) (d + 1) 91 (shsInj [(.cell (.int .u64))] x) A Q := Goes.of_text (e := en91) (sumTabs_no (by decide)) (by kernel_rfl) (by rfl) h
set_option maxRecDepth 20000 in
theorem t92 (x : (Bool) × Unit) (h : ∀ n, d ≤ n → Ev (f92 (XX os n) LL x) A Q) : Goes (XX os) (d + 1) 92 (shsInj [(.cell .bool)] x) A Q := Goes.of_text (e := en92) (sumTabs_no (by decide)) (by kernel_rfl) (by rfl) h
set_option maxRecDepth 20000 in
theorem t93 (x : (Int) × Unit) (h : ∀ n, d ≤ n → Ev (f93 (XX os n) LL x) A Q) : Goes (XX os) (d + 1) 93 (shsInj [(.cell (.int .i64))] x) A Q := Goes.of_text (e := en93) (sumTabs_no (by decide)) (by kernel_rfl) (by rfl) h
set_option maxRecDepth 20000 in
theorem t94 (x : (Int) × Unit) (h : ∀ n, d ≤ n → Ev (f94 (XX os n) LL x) A Q) : Goes (XX os) (d + 1) 94 (shsInj [(.cell (.int .u64))] x) A Q := Goes.of_text (e := en94) (sumTabs_no (by decide)) (by kernel_rfl) (by rfl) h
set_option maxRecDepth 20000 in
theorem t95 (x : (ByteArray) × Unit) (h : ∀ n, d ≤ n → Ev (f95 (XX os n) LL x) A Q) : Goes (XX os) (d + 1) 95 (shsInj [(.cell .string)] x) A Q := Goes.of_text (e := en95) (sumTabs_no (by decide)) (by kernel_rfl) (by rfl) h
set_option maxRecDepth 20000 in
theorem t97 (x : (ByteArray) × Unit) (h : ∀ n, d ≤ n → Ev (f97 (XX os n) LL x) A Q) : Goes (XX os) (d + 1) 97 (shsInj [(.cell .string)] x) A Q := Goes.of_text (e := en97) (sumTabs_no (by decide)) (by kernel_rfl) (by rfl) h
set_option maxRecDepth 20000 in
theorem t98 (x : (ByteArray) × Unit) (h : ∀ n, d ≤ n → Ev (f98 (XX os n) LL x) A Q) : Goes (XX os) (d + 1) 98 (shsInj [(.cell .string)] x) A Q := Goes.of_text (e := en98) (sumTabs_no (by decide)) (by kernel_rfl) (by rfl) h
set_option maxRecDepth 20000 in
theorem t99 (x : (Int) × Unit) (h : ∀ n, d ≤ n → Ev (f99 (XX os n) LL x) A Q) : Goes (XX os) (d + 1) 99 (shsInj [(.cell (.int .u32))] x) A Q := Goes.of_text (e := en99) (sumTabs_no (by decide)) (by kernel_rfl) (by rfl) h
set_option maxRecDepth 20000 in
theorem t100 (x : (Int) × Unit) (h : ∀ n, d ≤ n → Ev (f100 (XX os n) LL x) A Q) : Goes (XX os) (d + 1) 100 (shsInj [(.cell (.int .u64))] x) A Q := Goes.of_text (e := en100) (sumTabs_no (by decide)) (by kernel_rfl) (by rfl) h
set_option maxRecDepth 20000 in
theorem t101 (x : (Int) × Unit) (h : ∀ n, d ≤ n → Ev (f101 (XX os n) LL x) A Q) : Goes (XX os) (d + 1) 101 (shsInj [(.cell (.int .u8))] x) A Q := Goes.of_text (e := en101) (sumTabs_no (by decide)) (by kernel_rfl) (by rfl) h
set_option maxRecDepth 20000 in
theorem t102 (x : (ByteArray) × Unit) (h : ∀ n, d ≤ n → Ev (f102 (XX os n) LL x) A Q) : Goes (XX os) (d + 1) 102 (shsInj [(.cell .string)] x) A Q := Goes.of_text (e := en102) (sumTabs_no (by decide)) (by kernel_rfl) (by rfl) h
end
end Go.Proofs.YtlcigkdflbfdgaaDoor.sh
