/-
  Each call comes to its text.
-/
import Derived.Test.YtidadbppnmnfmaaGreatDoorPaT
import Derived.Test.YtidadbppnmnfmaaGreatDoorEng30
import Derived.KernelRfl
set_option linter.unusedVariables false
namespace Go.Proofs.YtidadbppnmnfmaaGreatDoor.pa
open Go Go.Eng
noncomputable section
abbrev XX (os : List (Nat × AObj)) : Nat → Task → M Value := iterU CC tr0 LL (sumTabs 13 (.bool true) (lowOs 3 os))
variable {os : List (Nat × AObj)} {d : Nat} {A : AW} {Q : Value → AW → Prop}
set_option maxRecDepth 20000 in
theorem t3 (x : (ByteArray) × (ByteArray) × (SL) × Unit) (h : ∀ n, d ≤ n → Ev (f3 (XX os n) LL x) A Q) : Goes (XX os) (d + 1) 3 (shsInj [(.cell .string), (.cell .string), (.cell .slice)] x) A Q := Goes.of_text (e := en3) (sumTabs_no (by decide)) (by kernel_rfl) (by rfl) h
set_option maxRecDepth 20000 in
theorem t6 (x : (ByteArray) × Unit) (h : ∀ n, d ≤ n → Ev (f6 (XX os n) LL x) A Q) : Goes (XX os) (d + 1) 6 (shsInj [(.cell .string)] x) A Q := Goes.of_text (e := en6) (sumTabs_no (by decide)) (by kernel_rfl) (by rfl) h
set_option maxRecDepth 20000 in
theorem t7 (x : (ByteArray) × Unit) (h : ∀ n, d ≤ n → Ev (f7 (XX os n) LL x) A Q) : Goes (XX os) (d + 1) 7 (shsInj [(.cell .string)] x) A Q := Goes.of_text (e := en7) (sumTabs_no (by decide)) (by kernel_rfl) (by rfl) h
set_option maxRecDepth 20000 in
theorem t8 (x : (SL) × Unit) (h : ∀ n, d ≤ n → Ev (f8 (XX os n) LL x) A Q) : Goes (XX os) (d + 1) 8 (shsInj [(.cell .slice)] x) A Q := Goes.of_text (e := en8) (sumTabs_no (by decide)) (by kernel_rfl) (by rfl) h
set_option maxRecDepth 20000 in
theorem t9 (x : (SL) × Unit) (h : ∀ n, d ≤ n → Ev (f9 (XX os n) LL x) A Q) : Goes (XX os) (d + 1) 9 (shsInj [(.cell .slice)] x) A Q := Goes.of_text (e := en9) (sumTabs_no (by decide)) (by kernel_rfl) (by rfl) h
set_option maxRecDepth 20000 in
theorem t10 (x : (SL) × (SL) × Unit) (h : ∀ n, d ≤ n → Ev (f10 (XX os n) LL x) A Q) : Goes (XX os) (d + 1) 10 (shsInj [(.cell .slice), (.cell .slice)] x) A Q := Goes.of_text (e := en10) (sumTabs_no (by decide)) (by kernel_rfl) (by rfl) h
set_option maxRecDepth 20000 in
theorem t11 (x : (ByteArray) × (ByteArray) × Unit) (h : ∀ n, d ≤ n → Ev (f11 (XX os n) LL x) A Q) : Goes (XX os) (d + 1) 11 (shsInj [(.cell .string), (.cell .string)] x) A Q := Goes.of_text (e := en11) (sumTabs_no (by decide)) (by kernel_rfl) (by rfl) h
set_option maxRecDepth 20000 in
theorem t12 (x : (ByteArray) × (ByteArray) × Unit) (h : ∀ n, d ≤ n → Ev (f12 (XX os n) LL x) A Q) : Goes (XX os) (d + 1) 12 (shsInj [(.cell .string), (.cell .string)] x) A Q := Goes.of_text (e := en12) (sumTabs_no (by decide)) (by kernel_rfl) (by rfl) h
set_option maxRecDepth 20000 in
theorem t14 (x : (ByteArray) × Unit) (h : ∀ n, d ≤ n → Ev (f14 (XX os n) LL x) A Q) : Goes (XX os) (d + 1) 14 (shsInj [(.cell .string)] x) A Q := Goes.of_text (e := en14) (sumTabs_no (by decide)) (by kernel_rfl) (by rfl) h
set_option maxRecDepth 20000 in
theorem t15 (x : (ByteArray) × (ByteArray) × Unit) (h : ∀ n, d ≤ n → Ev (f15 (XX os n) LL x) A Q) : Goes (XX os) (d + 1) 15 (shsInj [(.cell .string), (.cell .string)] x) A Q := Goes.of_text (e := en15) (sumTabs_no (by decide)) (by kernel_rfl) (by rfl) h
set_option maxRecDepth 20000 in
theorem t16 (x : (ByteArray) × Unit) (h : ∀ n, d ≤ n → Ev (f16 (XX os n) LL x) A Q) : Goes (XX os) (d + 1) 16 (shsInj [(.cell .string)] x) A Q := Goes.of_text (e := en16) (sumTabs_no (by decide)) (by kernel_rfl) (by rfl) h
set_option maxRecDepth 20000 in
theorem t17 (x : (SL) × (ByteArray) × Unit) (h : ∀ n, d ≤ n → Ev (f17 (XX os n) LL x) A Q) : Goes (XX os) (d + 1) 17 (shsInj [(.cell .slice), (.cell .string)] x) A Q := Goes.of_text (e := en17) (sumTabs_no (by decide)) (by kernel_rfl) (by rfl) h
set_option maxRecDepth 20000 in
theorem t18 (x : (ByteArray) × Unit) (h : ∀ n, d ≤ n → Ev (f18 (XX os n) LL x) A Q) : Goes (XX os) (d + 1) 18 (shsInj [(.cell .string)] x) A Q := Goes.of_text (e := en18) (sumTabs_no (by decide)) (by kernel_rfl) (by rfl) h
set_option maxRecDepth 20000 in
theorem t19 (x : (SL) × Unit) (h : ∀ n, d ≤ n → Ev (f19 (XX os n) LL x) A Q) : Goes (XX os) (d + 1) 19 (shsInj [(.cell .slice)] x) A Q := Goes.of_text (e := en19) (sumTabs_no (by decide)) (by kernel_rfl) (by rfl) h
set_option maxRecDepth 20000 in
theorem t20 (x : (SL) × (SL) × Unit) (h : ∀ n, d ≤ n → Ev (f20 (XX os n) LL x) A Q) : Goes (XX os) (d + 1) 20 (shsInj [(.cell .slice), (.cell .slice)] x) A Q := Goes.of_text (e := en20) (sumTabs_no (by decide)) (by kernel_rfl) (by rfl) h
set_option maxRecDepth 20000 in
theorem t25 (x : (ByteArray) × Unit) (h : ∀ n, d ≤ n → Ev (f25 (XX os n) LL x) A Q) : Goes (XX os) (d + 1) 25 (shsInj [(.cell .string)] x) A Q := Goes.of_text (e := en25) (sumTabs_no (by decide)) (by kernel_rfl) (by rfl) h
set_option maxRecDepth 20000 in
theorem t26 (x : (ByteArray) × (ByteArray) × Unit) (h : ∀ n, d ≤ n → Ev (f26 (XX os n) LL x) A Q) : Goes (XX os) (d + 1) 26 (shsInj [(.cell .string), (.cell .string)] x) A Q := Goes.of_text (e := en26) (sumTabs_no (by decide)) (by kernel_rfl) (by rfl) h
set_option maxRecDepth 20000 in
theorem t27 (x : (SL) × (ByteArray) × Unit) (h : ∀ n, d ≤ n → Ev (f27 (XX os n) LL x) A Q) : Goes (XX os) (d + 1) 27 (shsInj [(.cell .slice), (.cell .string)] x) A Q := Goes.of_text (e := en27) (sumTabs_no (by decide)) (by kernel_rfl) (by rfl) h
set_option maxRecDepth 20000 in
theorem t28 (x : (ByteArray) × Unit) (h : ∀ n, d ≤ n → Ev (f28 (XX os n) LL x) A Q) : Goes (XX os) (d + 1) 28 (shsInj [(.cell .string)] x) A Q := Goes.of_text (e := en28) (sumTabs_no (by decide)) (by kernel_rfl) (by rfl) h
set_option maxRecDepth 20000 in
theorem t29 (x : (PA) × (ByteArray) × Unit) (h : ∀ n, d ≤ n → Ev (f29 (XX os n) LL x) A Q) : Goes (XX os) (d + 1) 29 (shsInj [(.cell .ptr), (.cell .string)] x) A Q := Goes.of_text (e := en29) (sumTabs_no (by decide)) (by kernel_rfl) (by rfl) h
set_option maxRecDepth 20000 in
theorem t30 (x : (PA) × Unit) (h : ∀ n, d ≤ n → Ev (f30 (XX os n) LL x) A Q) : Goes (XX os) (d + 1) 30 (shsInj [(.cell .ptr)] x) A Q := Goes.of_text (e := en30) (sumTabs_no (by decide)) (by kernel_rfl) (by rfl) h
set_option maxRecDepth 20000 in
theorem t39 (x : (ByteArray) × Unit) (h : ∀ n, d ≤ n → Ev (f39 (XX os n) LL x) A Q) : Goes (XX os) (d + 1) 39 (shsInj [(.cell .string)] x) A Q := Goes.of_text (e := en39) (sumTabs_no (by decide)) (by kernel_rfl) (by rfl) h
set_option maxRecDepth 20000 in
theorem t40 (x : (ByteArray) × Unit) (h : ∀ n, d ≤ n → Ev (f40 (XX os n) LL x) A Q) : Goes (XX os) (d + 1) 40 (shsInj [(.cell .string)] x) A Q := Goes.of_text (e := en40) (sumTabs_no (by decide)) (by kernel_rfl) (by rfl) h
set_option maxRecDepth 20000 in
theorem t41 (x : (PA) × Unit) (h : ∀ n, d ≤ n → Ev (f41 (XX os n) LL x) A Q) : Goes (XX os) (d + 1) 41 (shsInj [(.cell .ptr)] x) A Q := Goes.of_text (e := en41) (sumTabs_no (by decide)) (by kernel_rfl) (by rfl) h
set_option maxRecDepth 20000 in
theorem t58 (x : (ByteArray) × Unit) (h : ∀ n, d ≤ n → Ev (f58 (XX os n) LL x) A Q) : Goes (XX os) (d + 1) 58 (shsInj [(.cell .string)] x) A Q := Goes.of_text (e := en58) (sumTabs_no (by decide)) (by kernel_rfl) (by rfl) h
end
end Go.Proofs.YtidadbppnmnfmaaGreatDoor.pa
