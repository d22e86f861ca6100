/-
  The table of these texts.
-/
import Derived.Test.YtidadbppnmnfmaaGreatDoorPaS0
import Derived.Test.YtidadbppnmnfmaaGreatDoorPaS1
import Derived.KernelRfl
set_option linter.unusedVariables false
namespace Go.Proofs.YtidadbppnmnfmaaGreatDoor.pa
open Go Go.Eng
noncomputable section
def LL : LoopI := Lw 1000000000000
def en3 : Entry := mkEntry LL [(.cell .string), (.cell .string), (.cell .slice)] f3
theorem k3 : Entry.ok CC LL 3 en3 := okOf (sh := [(.cell .string), (.cell .string), (.cell .slice)]) (tx := f3) e3
def en6 : Entry := mkEntry LL [(.cell .string)] f6
theorem k6 : Entry.ok CC LL 6 en6 := okOf (sh := [(.cell .string)]) (tx := f6) e6
def en7 : Entry := mkEntry LL [(.cell .string)] f7
theorem k7 : Entry.ok CC LL 7 en7 := okOf (sh := [(.cell .string)]) (tx := f7) e7
def en8 : Entry := mkEntry LL [(.cell .slice)] f8
theorem k8 : Entry.ok CC LL 8 en8 := okOf (sh := [(.cell .slice)]) (tx := f8) e8
def en9 : Entry := mkEntry LL [(.cell .slice)] f9
theorem k9 : Entry.ok CC LL 9 en9 := okOf (sh := [(.cell .slice)]) (tx := f9) e9
def en10 : Entry := mkEntry LL [(.cell .slice), (.cell .slice)] f10
theorem k10 : Entry.ok CC LL 10 en10 := okOf (sh := [(.cell .slice), (.cell .slice)]) (tx := f10) e10
def en11 : Entry := mkEntry LL [(.cell .string), (.cell .string)] f11
theorem k11 : Entry.ok CC LL 11 en11 := okOf (sh := [(.cell .string), (.cell .string)]) (tx := f11) e11
def en12 : Entry := mkEntry LL [(.cell .string), (.cell .string)] f12
theorem k12 : Entry.ok CC LL 12 en12 := okOf (sh := [(.cell .string), (.cell .string)]) (tx := f12) e12
def en13 : Entry := mkEntry LL [] f13
theorem k13 : Entry.ok CC LL 13 en13 := okOf (sh := []) (tx := f13) e13
def en14 : Entry := mkEntry LL [(.cell .string)] f14
theorem k14 : Entry.ok CC LL 14 en14 := okOf (sh := [(.cell .string)]) (tx := f14) e14
def en15 : Entry := mkEntry LL [(.cell .string), (.cell .string)] f15
theorem k15 : Entry.ok CC LL 15 en15 := okOf (sh := [(.cell .string), (.cell .string)]) (tx := f15) e15
def en16 : Entry := mkEntry LL [(.cell .string)] f16
theorem k16 : Entry.ok CC LL 16 en16 := okOf (sh := [(.cell .string)]) (tx := f16) e16
def en17 : Entry := mkEntry LL [(.cell .slice), (.cell .string)] f17
theorem k17 : Entry.ok CC LL 17 en17 := okOf (sh := [(.cell .slice), (.cell .string)]) (tx := f17) e17
def en18 : Entry := mkEntry LL [(.cell .string)] f18
theorem k18 : Entry.ok CC LL 18 en18 := okOf (sh := [(.cell .string)]) (tx := f18) e18
def en19 : Entry := mkEntry LL [(.cell .slice)] f19
theorem k19 : Entry.ok CC LL 19 en19 := okOf (sh := [(.cell .slice)]) (tx := f19) e19
def en20 : Entry := mkEntry LL [(.cell .slice), (.cell .slice)] f20
theorem k20 : Entry.ok CC LL 20 en20 := okOf (sh := [(.cell .slice), (.cell .slice)]) (tx := f20) e20
def en21 : Entry := mkEntry LL [(.cell .slice)] f21
theorem k21 : Entry.ok CC LL 21 en21 := okOf (sh := [(.cell .slice)]) (tx := f21) e21
def en22 : Entry := mkEntry LL [(.cell .ptr), (.cell .slice)] f22
theorem k22 : Entry.ok CC LL 22 en22 := okOf (sh := [(.cell .ptr), (.cell .slice)]) (tx := f22) e22
def en23 : Entry := mkEntry LL [(.cell .ptr), (.cell .string)] f23
theorem k23 : Entry.ok CC LL 23 en23 := okOf (sh := [(.cell .ptr), (.cell .string)]) (tx := f23) e23
def en24 : Entry := mkEntry LL [(.cell .ptr), (.cell .string)] f24
theorem k24 : Entry.ok CC LL 24 en24 := okOf (sh := [(.cell .ptr), (.cell .string)]) (tx := f24) e24
def en25 : Entry := mkEntry LL [(.cell .string)] f25
theorem k25 : Entry.ok CC LL 25 en25 := okOf (sh := [(.cell .string)]) (tx := f25) e25
def en26 : Entry := mkEntry LL [(.cell .string), (.cell .string)] f26
theorem k26 : Entry.ok CC LL 26 en26 := okOf (sh := [(.cell .string), (.cell .string)]) (tx := f26) e26
def en27 : Entry := mkEntry LL [(.cell .slice), (.cell .string)] f27
theorem k27 : Entry.ok CC LL 27 en27 := okOf (sh := [(.cell .slice), (.cell .string)]) (tx := f27) e27
def en28 : Entry := mkEntry LL [(.cell .string)] f28
theorem k28 : Entry.ok CC LL 28 en28 := okOf (sh := [(.cell .string)]) (tx := f28) e28
def en29 : Entry := mkEntry LL [(.cell .ptr), (.cell .string)] f29
theorem k29 : Entry.ok CC LL 29 en29 := okOf (sh := [(.cell .ptr), (.cell .string)]) (tx := f29) e29
def en30 : Entry := mkEntry LL [(.cell .ptr)] f30
theorem k30 : Entry.ok CC LL 30 en30 := okOf (sh := [(.cell .ptr)]) (tx := f30) e30
def en31 : Entry := mkEntry LL [(.cell (.int .i64)), (.cell (.int .i64)), (.cell (.int .i64))] f31
theorem k31 : Entry.ok CC LL 31 en31 := okOf (sh := [(.cell (.int .i64)), (.cell (.int .i64)), (.cell (.int .i64))]) (tx := f31) e31
def en32 : Entry := mkEntry LL [(.cell .ptr), (.agg [(.int .i64), (.int .i64), (.int .i64), (.int .i64), (.int .u32), (.int .u32), (.int .u32), (.int .u32), (.int .u32), (.int .u32), (.int .u32)]), (.cell .slice), (.cell .bool)] f32
theorem k32 : Entry.ok CC LL 32 en32 := okOf (sh := [(.cell .ptr), (.agg [(.int .i64), (.int .i64), (.int .i64), (.int .i64), (.int .u32), (.int .u32), (.int .u32), (.int .u32), (.int .u32), (.int .u32), (.int .u32)]), (.cell .slice), (.cell .bool)]) (tx := f32) e32
def en33 : Entry := mkEntry LL [(.cell .ptr), (.agg [(.int .i64), (.int .i64), (.int .i64), (.int .i64), (.int .u32), (.int .u32), (.int .u32), (.int .u32), (.int .u32), (.int .u32), (.int .u32)]), (.cell .slice), (.cell .bool)] f33
theorem k33 : Entry.ok CC LL 33 en33 := okOf (sh := [(.cell .ptr), (.agg [(.int .i64), (.int .i64), (.int .i64), (.int .i64), (.int .u32), (.int .u32), (.int .u32), (.int .u32), (.int .u32), (.int .u32), (.int .u32)]), (.cell .slice), (.cell .bool)]) (tx := f33) e33
def en34 : Entry := mkEntry LL [(.cell .ptr), (.cell (.int .i64)), (.cell .slice), (.cell .bool)] f34
theorem k34 : Entry.ok CC LL 34 en34 := okOf (sh := [(.cell .ptr), (.cell (.int .i64)), (.cell .slice), (.cell .bool)]) (tx := f34) e34
def en35 : Entry := mkEntry LL [(.cell .ptr), (.cell (.int .i64)), (.cell .slice), (.cell .bool)] f35
theorem k35 : Entry.ok CC LL 35 en35 := okOf (sh := [(.cell .ptr), (.cell (.int .i64)), (.cell .slice), (.cell .bool)]) (tx := f35) e35
def en36 : Entry := mkEntry LL [(.cell .ptr)] f36
theorem k36 : Entry.ok CC LL 36 en36 := okOf (sh := [(.cell .ptr)]) (tx := f36) e36
def en37 : Entry := mkEntry LL [(.cell .ptr), (.cell (.int .i64)), (.cell .string)] f37
theorem k37 : Entry.ok CC LL 37 en37 := okOf (sh := [(.cell .ptr), (.cell (.int .i64)), (.cell .string)]) (tx := f37) e37
def en38 : Entry := mkEntry LL [(.cell .ptr), (.cell (.int .i64))] f38
theorem k38 : Entry.ok CC LL 38 en38 := okOf (sh := [(.cell .ptr), (.cell (.int .i64))]) (tx := f38) e38
def en39 : Entry := mkEntry LL [(.cell .string)] f39
theorem k39 : Entry.ok CC LL 39 en39 := okOf (sh := [(.cell .string)]) (tx := f39) e39
def en40 : Entry := mkEntry LL [(.cell .string)] f40
theorem k40 : Entry.ok CC LL 40 en40 := okOf (sh := [(.cell .string)]) (tx := f40) e40
def en41 : Entry := mkEntry LL [(.cell .ptr)] f41
theorem k41 : Entry.ok CC LL 41 en41 := okOf (sh := [(.cell .ptr)]) (tx := f41) e41
def en42 : Entry := mkEntry LL [(.cell (.int .i64)), (.cell (.int .i64)), (.cell (.int .i64))] f42
theorem k42 : Entry.ok CC LL 42 en42 := okOf (sh := [(.cell (.int .i64)), (.cell (.int .i64)), (.cell (.int .i64))]) (tx := f42) e42
def en43 : Entry := mkEntry LL [(.cell .ptr), .raw] f43
theorem k43 : Entry.ok CC LL 43 en43 := okOf (sh := [(.cell .ptr), .raw]) (tx := f43) e43
def en44 : Entry := mkEntry LL [(.agg [(.int .i64), (.int .i64), (.int .i64), (.int .i64), (.int .u32), (.int .u32), (.int .u32), (.int .u32), (.int .u32), (.int .u32), (.int .u32)]), (.cell (.int .i64))] f44
theorem k44 : Entry.ok CC LL 44 en44 := okOf (sh := [(.agg [(.int .i64), (.int .i64), (.int .i64), (.int .i64), (.int .u32), (.int .u32), (.int .u32), (.int .u32), (.int .u32), (.int .u32), (.int .u32)]), (.cell (.int .i64))]) (tx := f44) e44
def en45 : Entry := mkEntry LL [(.agg [(.int .i64), (.int .i64), (.int .i64), (.int .i64), (.int .u32), (.int .u32), (.int .u32), (.int .u32), (.int .u32), (.int .u32), (.int .u32)])] f45
theorem k45 : Entry.ok CC LL 45 en45 := okOf (sh := [(.agg [(.int .i64), (.int .i64), (.int .i64), (.int .i64), (.int .u32), (.int .u32), (.int .u32), (.int .u32), (.int .u32), (.int .u32), (.int .u32)])]) (tx := f45) e45
def en46 : Entry := mkEntry LL [(.cell (.int .i64))] f46
theorem k46 : Entry.ok CC LL 46 en46 := okOf (sh := [(.cell (.int .i64))]) (tx := f46) e46
def en47 : Entry := mkEntry LL [(.cell .ptr), (.cell (.int .i64)), (.cell (.int .i64)), (.cell .slice), (.cell .bool)] f47
theorem k47 : Entry.ok CC LL 47 en47 := okOf (sh := [(.cell .ptr), (.cell (.int .i64)), (.cell (.int .i64)), (.cell .slice), (.cell .bool)]) (tx := f47) e47
def en48 : Entry := mkEntry LL [(.cell .ptr), (.agg [(.int .i64), (.int .i64), (.int .i64), (.int .i64), (.int .u32), (.int .u32), (.int .u32), (.int .u32), (.int .u32), (.int .u32), (.int .u32)]), (.cell .slice), (.cell .bool)] f48
theorem k48 : Entry.ok CC LL 48 en48 := okOf (sh := [(.cell .ptr), (.agg [(.int .i64), (.int .i64), (.int .i64), (.int .i64), (.int .u32), (.int .u32), (.int .u32), (.int .u32), (.int .u32), (.int .u32), (.int .u32)]), (.cell .slice), (.cell .bool)]) (tx := f48) e48
def en49 : Entry := mkEntry LL [(.agg [(.int .i64), (.int .i64), (.int .i64), (.int .i64), (.int .u32), (.int .u32), (.int .u32), (.int .u32), (.int .u32), (.int .u32), (.int .u32)])] f49
theorem k49 : Entry.ok CC LL 49 en49 := okOf (sh := [(.agg [(.int .i64), (.int .i64), (.int .i64), (.int .i64), (.int .u32), (.int .u32), (.int .u32), (.int .u32), (.int .u32), (.int .u32), (.int .u32)])]) (tx := f49) e49
def en50 : Entry := mkEntry LL [(.cell .ptr), (.cell (.int .i64)), (.cell (.int .i64)), (.cell .slice), (.cell .bool)] f50
theorem k50 : Entry.ok CC LL 50 en50 := okOf (sh := [(.cell .ptr), (.cell (.int .i64)), (.cell (.int .i64)), (.cell .slice), (.cell .bool)]) (tx := f50) e50
def en51 : Entry := mkEntry LL [(.cell .ptr), (.agg [(.int .i64), (.int .i64), (.int .i64), (.int .i64), (.int .u32), (.int .u32), (.int .u32), (.int .u32), (.int .u32), (.int .u32), (.int .u32)]), (.cell (.int .i64)), (.cell .slice), (.cell .bool)] f51
theorem k51 : Entry.ok CC LL 51 en51 := okOf (sh := [(.cell .ptr), (.agg [(.int .i64), (.int .i64), (.int .i64), (.int .i64), (.int .u32), (.int .u32), (.int .u32), (.int .u32), (.int .u32), (.int .u32), (.int .u32)]), (.cell (.int .i64)), (.cell .slice), (.cell .bool)]) (tx := f51) e51
def en52 : Entry := mkEntry LL [(.cell .slice)] f52
theorem k52 : Entry.ok CC LL 52 en52 := okOf (sh := [(.cell .slice)]) (tx := f52) e52
def en53 : Entry := mkEntry LL [(.cell .slice)] f53
theorem k53 : Entry.ok CC LL 53 en53 := okOf (sh := [(.cell .slice)]) (tx := f53) e53
def en54 : Entry := mkEntry LL [(.cell .ptr), (.cell (.int .i64)), (.cell .val)] f54
theorem k54 : Entry.ok CC LL 54 en54 := okOf (sh := [(.cell .ptr), (.cell (.int .i64)), (.cell .val)]) (tx := f54) e54
def en55 : Entry := mkEntry LL [(.cell .slice), (.cell .ptr)] f55
theorem k55 : Entry.ok CC LL 55 en55 := okOf (sh := [(.cell .slice), (.cell .ptr)]) (tx := f55) e55
def en56 : Entry := mkEntry LL [(.cell .slice), (.cell .string)] f56
theorem k56 : Entry.ok CC LL 56 en56 := okOf (sh := [(.cell .slice), (.cell .string)]) (tx := f56) e56
def en57 : Entry := mkEntry LL [(.cell .ptr), (.cell (.int .i64))] f57
theorem k57 : Entry.ok CC LL 57 en57 := okOf (sh := [(.cell .ptr), (.cell (.int .i64))]) (tx := f57) e57
def en58 : Entry := mkEntry LL [(.cell .string)] f58
theorem k58 : Entry.ok CC LL 58 en58 := okOf (sh := [(.cell .string)]) (tx := f58) e58
def en60 : Entry := mkEntry LL [(.cell (.int .i64)), (.cell (.int .i64)), (.cell (.int .i64)), (.cell (.int .i64))] f60
theorem k60 : Entry.ok CC LL 60 en60 := okOf (sh := [(.cell (.int .i64)), (.cell (.int .i64)), (.cell (.int .i64)), (.cell (.int .i64))]) (tx := f60) e60
def en61 : Entry := mkEntry LL [(.cell .ptr), (.cell (.int .u64)), (.cell .slice), (.cell .slice)] f61
theorem k61 : Entry.ok CC LL 61 en61 := okOf (sh := [(.cell .ptr), (.cell (.int .u64)), (.cell .slice), (.cell .slice)]) (tx := f61) e61
def en62 : Entry := mkEntry LL [(.cell (.int .i64))] f62
theorem k62 : Entry.ok CC LL 62 en62 := okOf (sh := [(.cell (.int .i64))]) (tx := f62) e62
def en63 : Entry := mkEntry LL [(.cell .ptr), (.cell (.int .u64)), (.cell .slice), (.cell .slice)] f63
theorem k63 : Entry.ok CC LL 63 en63 := okOf (sh := [(.cell .ptr), (.cell (.int .u64)), (.cell .slice), (.cell .slice)]) (tx := f63) e63
def en64 : Entry := mkEntry LL [(.cell .ptr)] f64
theorem k64 : Entry.ok CC LL 64 en64 := okOf (sh := [(.cell .ptr)]) (tx := f64) e64
def en65 : Entry := mkEntry LL [(.cell .slice), (.cell .val)] f65
theorem k65 : Entry.ok CC LL 65 en65 := okOf (sh := [(.cell .slice), (.cell .val)]) (tx := f65) e65
def en66 : Entry := mkEntry LL [(.cell (.int .u32))] f66
theorem k66 : Entry.ok CC LL 66 en66 := okOf (sh := [(.cell (.int .u32))]) (tx := f66) e66
def en67 : Entry := mkEntry LL [(.cell .ptr), (.cell .val), (.cell .bool)] f67
theorem k67 : Entry.ok CC LL 67 en67 := okOf (sh := [(.cell .ptr), (.cell .val), (.cell .bool)]) (tx := f67) e67
def en69 : Entry := mkEntry LL [(.agg [(.int .i64), (.int .i64), (.int .i64), (.int .i64), (.int .u32), (.int .u32), (.int .u32), (.int .u32), (.int .u32), (.int .u32), (.int .u32)]), (.cell .slice)] f69
theorem k69 : Entry.ok CC LL 69 en69 := okOf (sh := [(.agg [(.int .i64), (.int .i64), (.int .i64), (.int .i64), (.int .u32), (.int .u32), (.int .u32), (.int .u32), (.int .u32), (.int .u32), (.int .u32)]), (.cell .slice)]) (tx := f69) e69
def en70 : Entry := mkEntry LL [(.cell .ptr), (.agg [(.int .i64), (.int .i64), (.int .i64), (.int .i64), (.int .u32), (.int .u32), (.int .u32), (.int .u32), (.int .u32), (.int .u32), (.int .u32)]), (.cell .bool)] f70
theorem k70 : Entry.ok CC LL 70 en70 := okOf (sh := [(.cell .ptr), (.agg [(.int .i64), (.int .i64), (.int .i64), (.int .i64), (.int .u32), (.int .u32), (.int .u32), (.int .u32), (.int .u32), (.int .u32), (.int .u32)]), (.cell .bool)]) (tx := f70) e70
def en71 : Entry := mkEntry LL [(.cell (.int .i64))] f71
theorem k71 : Entry.ok CC LL 71 en71 := okOf (sh := [(.cell (.int .i64))]) (tx := f71) e71
def en72 : Entry := mkEntry LL [(.cell .ptr), (.agg [(.int .i64), .bool, (.int .i64), (.int .i64)]), (.cell .slice)] f72
theorem k72 : Entry.ok CC LL 72 en72 := okOf (sh := [(.cell .ptr), (.agg [(.int .i64), .bool, (.int .i64), (.int .i64)]), (.cell .slice)]) (tx := f72) e72
def en74 : Entry := mkEntry LL [(.cell .ptr), (.agg [(.int .i64), (.int .i64), (.int .i64), (.int .i64), (.int .u32), (.int .u32), (.int .u32), (.int .u32), (.int .u32), (.int .u32), (.int .u32)]), (.cell .bool)] f74
theorem k74 : Entry.ok CC LL 74 en74 := okOf (sh := [(.cell .ptr), (.agg [(.int .i64), (.int .i64), (.int .i64), (.int .i64), (.int .u32), (.int .u32), (.int .u32), (.int .u32), (.int .u32), (.int .u32), (.int .u32)]), (.cell .bool)]) (tx := f74) e74
def en75 : Entry := mkEntry LL [(.cell .slice)] f75
theorem k75 : Entry.ok CC LL 75 en75 := okOf (sh := [(.cell .slice)]) (tx := f75) e75
def en76 : Entry := mkEntry LL [(.cell .slice)] f76
theorem k76 : Entry.ok CC LL 76 en76 := okOf (sh := [(.cell .slice)]) (tx := f76) e76
def en77 : Entry := mkEntry LL [(.cell .ptr), (.cell (.int .i64)), (.cell (.int .i64)), (.cell (.int .i64))] f77
theorem k77 : Entry.ok CC LL 77 en77 := okOf (sh := [(.cell .ptr), (.cell (.int .i64)), (.cell (.int .i64)), (.cell (.int .i64))]) (tx := f77) e77
def en79 : Entry := mkEntry LL [(.cell .slice), (.cell .val)] f79
theorem k79 : Entry.ok CC LL 79 en79 := okOf (sh := [(.cell .slice), (.cell .val)]) (tx := f79) e79
def en80 : Entry := mkEntry LL [(.agg [(.int .i64), .string]), (.cell .ptr)] f80
theorem k80 : Entry.ok CC LL 80 en80 := okOf (sh := [(.agg [(.int .i64), .string]), (.cell .ptr)]) (tx := f80) e80
def en81 : Entry := mkEntry LL [(.cell .string), (.cell .string)] f81
theorem k81 : Entry.ok CC LL 81 en81 := okOf (sh := [(.cell .string), (.cell .string)]) (tx := f81) e81
def en82 : Entry := mkEntry LL [(.cell .ptr), (.cell (.int .i64))] f82
theorem k82 : Entry.ok CC LL 82 en82 := okOf (sh := [(.cell .ptr), (.cell (.int .i64))]) (tx := f82) e82
def en83 : Entry := mkEntry LL [(.cell (.int .i64)), (.cell (.int .i64))] f83
theorem k83 : Entry.ok CC LL 83 en83 := okOf (sh := [(.cell (.int .i64)), (.cell (.int .i64))]) (tx := f83) e83
def en84 : Entry := mkEntry LL [(.cell (.int .i64)), (.cell (.int .i64))] f84
theorem k84 : Entry.ok CC LL 84 en84 := okOf (sh := [(.cell (.int .i64)), (.cell (.int .i64))]) (tx := f84) e84
def en85 : Entry := mkEntry LL [(.cell .ptr), (.agg [(.int .i64), (.int .i64), (.int .i64)]), (.cell (.int .i64))] f85
theorem k85 : Entry.ok CC LL 85 en85 := okOf (sh := [(.cell .ptr), (.agg [(.int .i64), (.int .i64), (.int .i64)]), (.cell (.int .i64))]) (tx := f85) e85
def en86 : Entry := mkEntry LL [(.cell .ptr), (.agg [(.int .i64), (.int .i64), (.int .i64)]), (.cell (.int .i64))] f86
theorem k86 : Entry.ok CC LL 86 en86 := okOf (sh := [(.cell .ptr), (.agg [(.int .i64), (.int .i64), (.int .i64)]), (.cell (.int .i64))]) (tx := f86) e86
def en87 : Entry := mkEntry LL [(.cell .ptr)] f87
theorem k87 : Entry.ok CC LL 87 en87 := okOf (sh := [(.cell .ptr)]) (tx := f87) e87
def en88 : Entry := mkEntry LL [(.cell .ptr)] f88
theorem k88 : Entry.ok CC LL 88 en88 := okOf (sh := [(.cell .ptr)]) (tx := f88) e88
def en89 : Entry := mkEntry LL [(.cell .slice), (.cell (.int .i64)), (.cell (.int .i64))] f89
theorem k89 : Entry.ok CC LL 89 en89 := okOf (sh := [(.cell .slice), (.cell (.int .i64)), (.cell (.int .i64))]) (tx := f89) e89
def en90 : Entry := mkEntry LL [(.cell .slice)] f90
theorem k90 : Entry.ok CC LL 90 en90 := okOf (sh := [(.cell .slice)]) (tx := f90) e90
def en91 : Entry := mkEntry LL [(.cell .slice)] f91
theorem k91 : Entry.ok CC LL 91 en91 := okOf (sh := [(.cell .slice)]) (tx := f91) e91
def en92 : Entry := mkEntry LL [(.cell .slice), (.cell (.int .i64)), (.cell (.int .i64))] f92
theorem k92 : Entry.ok CC LL 92 en92 := okOf (sh := [(.cell .slice), (.cell (.int .i64)), (.cell (.int .i64))]) (tx := f92) e92
def en93 : Entry := mkEntry LL [(.cell .slice), (.cell .val)] f93
theorem k93 : Entry.ok CC LL 93 en93 := okOf (sh := [(.cell .slice), (.cell .val)]) (tx := f93) e93
def en94 : Entry := mkEntry LL [(.cell .ptr), (.cell (.int .i64))] f94
theorem k94 : Entry.ok CC LL 94 en94 := okOf (sh := [(.cell .ptr), (.cell (.int .i64))]) (tx := f94) e94
def en95 : Entry := mkEntry LL [(.cell .ptr), (.agg [(.int .i64), .bool, (.int .i64), (.int .i64)]), (.cell .slice)] f95
theorem k95 : Entry.ok CC LL 95 en95 := okOf (sh := [(.cell .ptr), (.agg [(.int .i64), .bool, (.int .i64), (.int .i64)]), (.cell .slice)]) (tx := f95) e95
def en96 : Entry := mkEntry LL [(.cell .slice)] f96
theorem k96 : Entry.ok CC LL 96 en96 := okOf (sh := [(.cell .slice)]) (tx := f96) e96
def en97 : Entry := mkEntry LL [(.agg [(.int .i64), .bool, (.int .i64), (.int .i64)])] f97
theorem k97 : Entry.ok CC LL 97 en97 := okOf (sh := [(.agg [(.int .i64), .bool, (.int .i64), (.int .i64)])]) (tx := f97) e97
def en98 : Entry := mkEntry LL [(.cell (.int .i64)), (.cell (.int .i64)), (.cell (.int .i64))] f98
theorem k98 : Entry.ok CC LL 98 en98 := okOf (sh := [(.cell (.int .i64)), (.cell (.int .i64)), (.cell (.int .i64))]) (tx := f98) e98
def en99 : Entry := mkEntry LL [(.cell .slice)] f99
theorem k99 : Entry.ok CC LL 99 en99 := okOf (sh := [(.cell .slice)]) (tx := f99) e99
def en100 : Entry := mkEntry LL [(.cell (.int .i64))] f100
theorem k100 : Entry.ok CC LL 100 en100 := okOf (sh := [(.cell (.int .i64))]) (tx := f100) e100
def en103 : Entry := mkEntry LL [(.agg [(.int .i64), (.int .i64), (.int .i64), (.int .i64), (.int .u32), (.int .u32), (.int .u32), (.int .u32), (.int .u32), (.int .u32), (.int .u32)])] f103
theorem k103 : Entry.ok CC LL 103 en103 := okOf (sh := [(.agg [(.int .i64), (.int .i64), (.int .i64), (.int .i64), (.int .u32), (.int .u32), (.int .u32), (.int .u32), (.int .u32), (.int .u32), (.int .u32)])]) (tx := f103) e103
def en104 : Entry := mkEntry LL [(.cell (.int .i64))] f104
theorem k104 : Entry.ok CC LL 104 en104 := okOf (sh := [(.cell (.int .i64))]) (tx := f104) e104
def en105 : Entry := mkEntry LL [(.cell .string), (.cell .string)] f105
theorem k105 : Entry.ok CC LL 105 en105 := okOf (sh := [(.cell .string), (.cell .string)]) (tx := f105) e105
def en106 : Entry := mkEntry LL [(.cell .ptr), (.cell (.int .i64)), (.cell .val)] f106
theorem k106 : Entry.ok CC LL 106 en106 := okOf (sh := [(.cell .ptr), (.cell (.int .i64)), (.cell .val)]) (tx := f106) e106
def en107 : Entry := mkEntry LL [(.agg [(.int .i64), (.int .i64), (.int .i64), (.int .i64), (.int .u32), (.int .u32), (.int .u32), (.int .u32), (.int .u32), (.int .u32), (.int .u32)]), (.cell .slice), (.cell .ptr), (.cell .ptr), (.cell .ptr), (.cell .ptr)] f107
theorem k107 : Entry.ok CC LL 107 en107 := okOf (sh := [(.agg [(.int .i64), (.int .i64), (.int .i64), (.int .i64), (.int .u32), (.int .u32), (.int .u32), (.int .u32), (.int .u32), (.int .u32), (.int .u32)]), (.cell .slice), (.cell .ptr), (.cell .ptr), (.cell .ptr), (.cell .ptr)]) (tx := f107) e107
def en108 : Entry := mkEntry LL [(.cell (.int .i64)), (.cell (.int .i64))] f108
theorem k108 : Entry.ok CC LL 108 en108 := okOf (sh := [(.cell (.int .i64)), (.cell (.int .i64))]) (tx := f108) e108
def en109 : Entry := mkEntry LL [(.cell .ptr), (.cell (.int .u32))] f109
theorem k109 : Entry.ok CC LL 109 en109 := okOf (sh := [(.cell .ptr), (.cell (.int .u32))]) (tx := f109) e109
def en110 : Entry := mkEntry LL [(.cell .slice), (.cell (.int .i64))] f110
theorem k110 : Entry.ok CC LL 110 en110 := okOf (sh := [(.cell .slice), (.cell (.int .i64))]) (tx := f110) e110
def en111 : Entry := mkEntry LL [(.cell .slice), (.cell .slice)] f111
theorem k111 : Entry.ok CC LL 111 en111 := okOf (sh := [(.cell .slice), (.cell .slice)]) (tx := f111) e111
def en112 : Entry := mkEntry LL [(.cell .slice), (.cell .slice)] f112
theorem k112 : Entry.ok CC LL 112 en112 := okOf (sh := [(.cell .slice), (.cell .slice)]) (tx := f112) e112
def en113 : Entry := mkEntry LL [(.cell .string)] f113
theorem k113 : Entry.ok CC LL 113 en113 := okOf (sh := [(.cell .string)]) (tx := f113) e113
def en114 : Entry := mkEntry LL [(.cell .string), (.cell .string)] f114
theorem k114 : Entry.ok CC LL 114 en114 := okOf (sh := [(.cell .string), (.cell .string)]) (tx := f114) e114
def en115 : Entry := mkEntry LL [(.cell .ptr), (.cell (.int .u32))] f115
theorem k115 : Entry.ok CC LL 115 en115 := okOf (sh := [(.cell .ptr), (.cell (.int .u32))]) (tx := f115) e115
def en116 : Entry := mkEntry LL [(.cell .slice)] f116
theorem k116 : Entry.ok CC LL 116 en116 := okOf (sh := [(.cell .slice)]) (tx := f116) e116
def en117 : Entry := mkEntry LL [(.cell (.int .i64))] f117
theorem k117 : Entry.ok CC LL 117 en117 := okOf (sh := [(.cell (.int .i64))]) (tx := f117) e117
def en118 : Entry := mkEntry LL [(.cell .ptr)] f118
theorem k118 : Entry.ok CC LL 118 en118 := okOf (sh := [(.cell .ptr)]) (tx := f118) e118
def en119 : Entry := mkEntry LL [(.cell (.int .i64)), (.cell (.int .i64))] f119
theorem k119 : Entry.ok CC LL 119 en119 := okOf (sh := [(.cell (.int .i64)), (.cell (.int .i64))]) (tx := f119) e119
def en120 : Entry := mkEntry LL [(.cell .ptr)] f120
theorem k120 : Entry.ok CC LL 120 en120 := okOf (sh := [(.cell .ptr)]) (tx := f120) e120
def en121 : Entry := mkEntry LL [(.cell (.int .i64)), (.cell (.int .i64))] f121
theorem k121 : Entry.ok CC LL 121 en121 := okOf (sh := [(.cell (.int .i64)), (.cell (.int .i64))]) (tx := f121) e121
def en122 : Entry := mkEntry LL [(.cell .slice)] f122
theorem k122 : Entry.ok CC LL 122 en122 := okOf (sh := [(.cell .slice)]) (tx := f122) e122
def en123 : Entry := mkEntry LL [(.cell .slice)] f123
theorem k123 : Entry.ok CC LL 123 en123 := okOf (sh := [(.cell .slice)]) (tx := f123) e123
def en124 : Entry := mkEntry LL [(.cell .ptr), (.cell .val)] f124
theorem k124 : Entry.ok CC LL 124 en124 := okOf (sh := [(.cell .ptr), (.cell .val)]) (tx := f124) e124
def en125 : Entry := mkEntry LL [(.cell .ptr), (.cell .ptr), (.cell .ptr), (.cell .ptr)] f125
theorem k125 : Entry.ok CC LL 125 en125 := okOf (sh := [(.cell .ptr), (.cell .ptr), (.cell .ptr), (.cell .ptr)]) (tx := f125) e125
def en126 : Entry := mkEntry LL [(.agg [(.int .i64), .bool, (.int .i64), (.int .i64)])] f126
theorem k126 : Entry.ok CC LL 126 en126 := okOf (sh := [(.agg [(.int .i64), .bool, (.int .i64), (.int .i64)])]) (tx := f126) e126
def en127 : Entry := mkEntry LL [(.cell (.int .i64)), (.cell (.int .i64)), (.cell (.int .i64))] f127
theorem k127 : Entry.ok CC LL 127 en127 := okOf (sh := [(.cell (.int .i64)), (.cell (.int .i64)), (.cell (.int .i64))]) (tx := f127) e127
def en128 : Entry := mkEntry LL [(.cell .ptr)] f128
theorem k128 : Entry.ok CC LL 128 en128 := okOf (sh := [(.cell .ptr)]) (tx := f128) e128
def en129 : Entry := mkEntry LL [(.cell .slice)] f129
theorem k129 : Entry.ok CC LL 129 en129 := okOf (sh := [(.cell .slice)]) (tx := f129) e129
def en130 : Entry := mkEntry LL [(.cell (.int .i64))] f130
theorem k130 : Entry.ok CC LL 130 en130 := okOf (sh := [(.cell (.int .i64))]) (tx := f130) e130
def en132 : Entry := mkEntry LL [(.cell (.int .i64))] f132
theorem k132 : Entry.ok CC LL 132 en132 := okOf (sh := [(.cell (.int .i64))]) (tx := f132) e132
def en135 : Entry := mkEntry LL [(.cell .slice), (.cell (.int .i64)), (.cell (.int .i64)), (.cell (.int .u64))] f135
theorem k135 : Entry.ok CC LL 135 en135 := okOf (sh := [(.cell .slice), (.cell (.int .i64)), (.cell (.int .i64)), (.cell (.int .u64))]) (tx := f135) e135
def en136 : Entry := mkEntry LL [(.cell .string)] f136
theorem k136 : Entry.ok CC LL 136 en136 := okOf (sh := [(.cell .string)]) (tx := f136) e136
def en137 : Entry := mkEntry LL [(.cell .ptr), (.agg [(.int .i64), (.int .i64), (.int .i64), (.int .i64), (.int .u32), (.int .u32), (.int .u32), (.int .u32), (.int .u32), (.int .u32), (.int .u32)])] f137
theorem k137 : Entry.ok CC LL 137 en137 := okOf (sh := [(.cell .ptr), (.agg [(.int .i64), (.int .i64), (.int .i64), (.int .i64), (.int .u32), (.int .u32), (.int .u32), (.int .u32), (.int .u32), (.int .u32), (.int .u32)])]) (tx := f137) e137
def en138 : Entry := mkEntry LL [(.cell .val), (.cell .ptr), (.cell .ptr)] f138
theorem k138 : Entry.ok CC LL 138 en138 := okOf (sh := [(.cell .val), (.cell .ptr), (.cell .ptr)]) (tx := f138) e138
def en139 : Entry := mkEntry LL [(.cell (.int .i32)), (.cell (.int .i32))] f139
theorem k139 : Entry.ok CC LL 139 en139 := okOf (sh := [(.cell (.int .i32)), (.cell (.int .i32))]) (tx := f139) e139
def en140 : Entry := mkEntry LL [(.cell .string), (.cell .string)] f140
theorem k140 : Entry.ok CC LL 140 en140 := okOf (sh := [(.cell .string), (.cell .string)]) (tx := f140) e140
def en141 : Entry := mkEntry LL [(.cell .ptr), (.cell .ptr), (.cell .ptr)] f141
theorem k141 : Entry.ok CC LL 141 en141 := okOf (sh := [(.cell .ptr), (.cell .ptr), (.cell .ptr)]) (tx := f141) e141
def en142 : Entry := mkEntry LL [(.cell (.int .i64)), (.cell (.int .u32))] f142
theorem k142 : Entry.ok CC LL 142 en142 := okOf (sh := [(.cell (.int .i64)), (.cell (.int .u32))]) (tx := f142) e142
def en144 : Entry := mkEntry LL [(.cell (.int .i64))] f144
theorem k144 : Entry.ok CC LL 144 en144 := okOf (sh := [(.cell (.int .i64))]) (tx := f144) e144
def en145 : Entry := mkEntry LL [(.cell (.int .i64)), (.cell .ptr)] f145
theorem k145 : Entry.ok CC LL 145 en145 := okOf (sh := [(.cell (.int .i64)), (.cell .ptr)]) (tx := f145) e145
def en146 : Entry := mkEntry LL [(.agg [(.int .i64), (.int .i64), (.int .i64), (.int .i64), (.int .u32), (.int .u32), (.int .u32), (.int .u32), (.int .u32), (.int .u32), (.int .u32)])] f146
theorem k146 : Entry.ok CC LL 146 en146 := okOf (sh := [(.agg [(.int .i64), (.int .i64), (.int .i64), (.int .i64), (.int .u32), (.int .u32), (.int .u32), (.int .u32), (.int .u32), (.int .u32), (.int .u32)])]) (tx := f146) e146
def en147 : Entry := mkEntry LL [(.cell .slice), (.cell (.int .i64)), (.cell (.int .i64)), (.cell (.int .i64))] f147
theorem k147 : Entry.ok CC LL 147 en147 := okOf (sh := [(.cell .slice), (.cell (.int .i64)), (.cell (.int .i64)), (.cell (.int .i64))]) (tx := f147) e147
def en148 : Entry := mkEntry LL [(.cell (.int .u64))] f148
theorem k148 : Entry.ok CC LL 148 en148 := okOf (sh := [(.cell (.int .u64))]) (tx := f148) e148
def en149 : Entry := mkEntry LL [(.cell (.int .i64))] f149
theorem k149 : Entry.ok CC LL 149 en149 := okOf (sh := [(.cell (.int .i64))]) (tx := f149) e149
def en160 : Entry := mkEntry LL [(.agg [(.int .i64), (.int .i64), (.int .i64), (.int .i64), (.int .u32), (.int .u32), (.int .u32), (.int .u32), (.int .u32), (.int .u32), (.int .u32)]), (.cell .slice)] f160
theorem k160 : Entry.ok CC LL 160 en160 := okOf (sh := [(.agg [(.int .i64), (.int .i64), (.int .i64), (.int .i64), (.int .u32), (.int .u32), (.int .u32), (.int .u32), (.int .u32), (.int .u32), (.int .u32)]), (.cell .slice)]) (tx := f160) e160
def en161 : Entry := mkEntry LL [(.cell (.int .i32))] f161
theorem k161 : Entry.ok CC LL 161 en161 := okOf (sh := [(.cell (.int .i32))]) (tx := f161) e161
def en164 : Entry := mkEntry LL [(.agg [(.int .i64), (.int .i64), (.int .i64), (.int .i64), (.int .u32), (.int .u32), (.int .u32), (.int .u32), (.int .u32), (.int .u32), (.int .u32)])] f164
theorem k164 : Entry.ok CC LL 164 en164 := okOf (sh := [(.agg [(.int .i64), (.int .i64), (.int .i64), (.int .i64), (.int .u32), (.int .u32), (.int .u32), (.int .u32), (.int .u32), (.int .u32), (.int .u32)])]) (tx := f164) e164
def en168 : Entry := mkEntry LL [(.cell .slice), (.cell (.int .i64)), (.cell (.int .i64))] f168
theorem k168 : Entry.ok CC LL 168 en168 := okOf (sh := [(.cell .slice), (.cell (.int .i64)), (.cell (.int .i64))]) (tx := f168) e168
def en170 : Entry := mkEntry LL [(.cell .slice), (.cell (.int .i64)), (.cell (.int .i64))] f170
theorem k170 : Entry.ok CC LL 170 en170 := okOf (sh := [(.cell .slice), (.cell (.int .i64)), (.cell (.int .i64))]) (tx := f170) e170
def en171 : Entry := mkEntry LL [(.cell (.int .i64)), (.cell (.int .i64))] f171
theorem k171 : Entry.ok CC LL 171 en171 := okOf (sh := [(.cell (.int .i64)), (.cell (.int .i64))]) (tx := f171) e171
def en175 : Entry := mkEntry LL [(.cell (.int .u64))] f175
theorem k175 : Entry.ok CC LL 175 en175 := okOf (sh := [(.cell (.int .u64))]) (tx := f175) e175
def en187 : Entry := mkEntry LL [(.cell (.int .i64))] f187
theorem k187 : Entry.ok CC LL 187 en187 := okOf (sh := [(.cell (.int .i64))]) (tx := f187) e187
def en195 : Entry := mkEntry LL [(.cell .slice), (.cell (.int .i64)), (.cell .ptr)] f195
theorem k195 : Entry.ok CC LL 195 en195 := okOf (sh := [(.cell .slice), (.cell (.int .i64)), (.cell .ptr)]) (tx := f195) e195
def en196 : Entry := mkEntry LL [(.cell .slice), (.cell (.int .i64)), (.cell (.int .i64)), (.cell (.int .i64)), (.cell .ptr)] f196
theorem k196 : Entry.ok CC LL 196 en196 := okOf (sh := [(.cell .slice), (.cell (.int .i64)), (.cell (.int .i64)), (.cell (.int .i64)), (.cell .ptr)]) (tx := f196) e196
def en197 : Entry := mkEntry LL [(.cell (.int .i64))] f197
theorem k197 : Entry.ok CC LL 197 en197 := okOf (sh := [(.cell (.int .i64))]) (tx := f197) e197
def en215 : Entry := mkEntry LL [(.cell .slice), (.cell (.int .i64)), (.cell (.int .i64)), (.cell .ptr)] f215
theorem k215 : Entry.ok CC LL 215 en215 := okOf (sh := [(.cell .slice), (.cell (.int .i64)), (.cell (.int .i64)), (.cell .ptr)]) (tx := f215) e215
def en217 : Entry := mkEntry LL [(.cell (.int .u8)), (.cell (.int .u8))] f217
theorem k217 : Entry.ok CC LL 217 en217 := okOf (sh := [(.cell (.int .u8)), (.cell (.int .u8))]) (tx := f217) e217
def en218 : Entry := mkEntry LL [(.cell (.int .u8))] f218
theorem k218 : Entry.ok CC LL 218 en218 := okOf (sh := [(.cell (.int .u8))]) (tx := f218) e218
def en228 : Entry := mkEntry LL [(.cell (.int .u8))] f228
theorem k228 : Entry.ok CC LL 228 en228 := okOf (sh := [(.cell (.int .u8))]) (tx := f228) e228
def en229 : Entry := mkEntry LL [(.cell (.int .u8))] f229
theorem k229 : Entry.ok CC LL 229 en229 := okOf (sh := [(.cell (.int .u8))]) (tx := f229) e229
def en230 : Entry := mkEntry LL [(.cell (.int .i64))] f230
theorem k230 : Entry.ok CC LL 230 en230 := okOf (sh := [(.cell (.int .i64))]) (tx := f230) e230
def en233 : Entry := mkEntry LL [] f233
theorem k233 : Entry.ok CC LL 233 en233 := okOf (sh := []) (tx := f233) e233
def en234 : Entry := mkEntry LL [(.cell (.int .i64))] f234
theorem k234 : Entry.ok CC LL 234 en234 := okOf (sh := [(.cell (.int .i64))]) (tx := f234) e234
def en256 : Entry := mkEntry LL [(.agg [(.int .i64), (.int .i64), .slice])] f256
theorem k256 : Entry.ok CC LL 256 en256 := okOf (sh := [(.agg [(.int .i64), (.int .i64), .slice])]) (tx := f256) e256
def en257 : Entry := mkEntry LL [(.agg [(.int .i64), (.int .i64), .slice])] f257
theorem k257 : Entry.ok CC LL 257 en257 := okOf (sh := [(.agg [(.int .i64), (.int .i64), .slice])]) (tx := f257) e257
def en262 : Entry := mkEntry LL [(.agg [(.int .i64), (.int .i64), (.int .i64), (.int .i64), (.int .u32), (.int .u32), (.int .u32), (.int .u32), (.int .u32), (.int .u32), (.int .u32)])] f262
theorem k262 : Entry.ok CC LL 262 en262 := okOf (sh := [(.agg [(.int .i64), (.int .i64), (.int .i64), (.int .i64), (.int .u32), (.int .u32), (.int .u32), (.int .u32), (.int .u32), (.int .u32), (.int .u32)])]) (tx := f262) e262
def en263 : Entry := mkEntry LL [(.agg [(.int .i64), (.int .i64), (.int .i64), (.int .i64), (.int .u32), (.int .u32), (.int .u32), (.int .u32), (.int .u32), (.int .u32), (.int .u32)])] f263
theorem k263 : Entry.ok CC LL 263 en263 := okOf (sh := [(.agg [(.int .i64), (.int .i64), (.int .i64), (.int .i64), (.int .u32), (.int .u32), (.int .u32), (.int .u32), (.int .u32), (.int .u32), (.int .u32)])]) (tx := f263) e263
def tr254 : Tree Entry := .node none .leaf .leaf
theorem tk254 : AllT (Entry.ok CC LL) tr254 254 128 := AllT.mk allNone (AllT.leaf 382 256) (AllT.leaf 510 256) rfl rfl rfl
def tr190 : Tree Entry := .node none .leaf .leaf
theorem tk190 : AllT (Entry.ok CC LL) tr190 190 128 := AllT.mk allNone (AllT.leaf 318 256) (AllT.leaf 446 256) rfl rfl rfl
def tr126 : Tree Entry := .node (some en126) tr190 tr254
theorem tk126 : AllT (Entry.ok CC LL) tr126 126 64 := AllT.mk (allSome k126) tk190 tk254 rfl rfl rfl
def tr222 : Tree Entry := .node none .leaf .leaf
theorem tk222 : AllT (Entry.ok CC LL) tr222 222 128 := AllT.mk allNone (AllT.leaf 350 256) (AllT.leaf 478 256) rfl rfl rfl
def tr158 : Tree Entry := .node none .leaf .leaf
theorem tk158 : AllT (Entry.ok CC LL) tr158 158 128 := AllT.mk allNone (AllT.leaf 286 256) (AllT.leaf 414 256) rfl rfl rfl
def tr94 : Tree Entry := .node (some en94) tr158 tr222
theorem tk94 : AllT (Entry.ok CC LL) tr94 94 64 := AllT.mk (allSome k94) tk158 tk222 rfl rfl rfl
def tr62 : Tree Entry := .node (some en62) tr94 tr126
theorem tk62 : AllT (Entry.ok CC LL) tr62 62 32 := AllT.mk (allSome k62) tk94 tk126 rfl rfl rfl
def tr238 : Tree Entry := .node none .leaf .leaf
theorem tk238 : AllT (Entry.ok CC LL) tr238 238 128 := AllT.mk allNone (AllT.leaf 366 256) (AllT.leaf 494 256) rfl rfl rfl
def tr174 : Tree Entry := .node none .leaf .leaf
theorem tk174 : AllT (Entry.ok CC LL) tr174 174 128 := AllT.mk allNone (AllT.leaf 302 256) (AllT.leaf 430 256) rfl rfl rfl
def tr110 : Tree Entry := .node (some en110) tr174 tr238
theorem tk110 : AllT (Entry.ok CC LL) tr110 110 64 := AllT.mk (allSome k110) tk174 tk238 rfl rfl rfl
def tr206 : Tree Entry := .node none .leaf .leaf
theorem tk206 : AllT (Entry.ok CC LL) tr206 206 128 := AllT.mk allNone (AllT.leaf 334 256) (AllT.leaf 462 256) rfl rfl rfl
def tr142 : Tree Entry := .node (some en142) .leaf .leaf
theorem tk142 : AllT (Entry.ok CC LL) tr142 142 128 := AllT.mk (allSome k142) (AllT.leaf 270 256) (AllT.leaf 398 256) rfl rfl rfl
def tr78 : Tree Entry := .node none tr142 tr206
theorem tk78 : AllT (Entry.ok CC LL) tr78 78 64 := AllT.mk allNone tk142 tk206 rfl rfl rfl
def tr46 : Tree Entry := .node (some en46) tr78 tr110
theorem tk46 : AllT (Entry.ok CC LL) tr46 46 32 := AllT.mk (allSome k46) tk78 tk110 rfl rfl rfl
def tr30 : Tree Entry := .node (some en30) tr46 tr62
theorem tk30 : AllT (Entry.ok CC LL) tr30 30 16 := AllT.mk (allSome k30) tk46 tk62 rfl rfl rfl
def tr246 : Tree Entry := .node none .leaf .leaf
theorem tk246 : AllT (Entry.ok CC LL) tr246 246 128 := AllT.mk allNone (AllT.leaf 374 256) (AllT.leaf 502 256) rfl rfl rfl
def tr182 : Tree Entry := .node none .leaf .leaf
theorem tk182 : AllT (Entry.ok CC LL) tr182 182 128 := AllT.mk allNone (AllT.leaf 310 256) (AllT.leaf 438 256) rfl rfl rfl
def tr118 : Tree Entry := .node (some en118) tr182 tr246
theorem tk118 : AllT (Entry.ok CC LL) tr118 118 64 := AllT.mk (allSome k118) tk182 tk246 rfl rfl rfl
def tr214 : Tree Entry := .node none .leaf .leaf
theorem tk214 : AllT (Entry.ok CC LL) tr214 214 128 := AllT.mk allNone (AllT.leaf 342 256) (AllT.leaf 470 256) rfl rfl rfl
def tr150 : Tree Entry := .node none .leaf .leaf
theorem tk150 : AllT (Entry.ok CC LL) tr150 150 128 := AllT.mk allNone (AllT.leaf 278 256) (AllT.leaf 406 256) rfl rfl rfl
def tr86 : Tree Entry := .node (some en86) tr150 tr214
theorem tk86 : AllT (Entry.ok CC LL) tr86 86 64 := AllT.mk (allSome k86) tk150 tk214 rfl rfl rfl
def tr54 : Tree Entry := .node (some en54) tr86 tr118
theorem tk54 : AllT (Entry.ok CC LL) tr54 54 32 := AllT.mk (allSome k54) tk86 tk118 rfl rfl rfl
def tr230 : Tree Entry := .node (some en230) .leaf .leaf
theorem tk230 : AllT (Entry.ok CC LL) tr230 230 128 := AllT.mk (allSome k230) (AllT.leaf 358 256) (AllT.leaf 486 256) rfl rfl rfl
def tr166 : Tree Entry := .node none .leaf .leaf
theorem tk166 : AllT (Entry.ok CC LL) tr166 166 128 := AllT.mk allNone (AllT.leaf 294 256) (AllT.leaf 422 256) rfl rfl rfl
def tr102 : Tree Entry := .node none tr166 tr230
theorem tk102 : AllT (Entry.ok CC LL) tr102 102 64 := AllT.mk allNone tk166 tk230 rfl rfl rfl
def tr198 : Tree Entry := .node none .leaf .leaf
theorem tk198 : AllT (Entry.ok CC LL) tr198 198 128 := AllT.mk allNone (AllT.leaf 326 256) (AllT.leaf 454 256) rfl rfl rfl
def tr262 : Tree Entry := .node (some en262) .leaf .leaf
theorem tk262 : AllT (Entry.ok CC LL) tr262 262 256 := AllT.mk (allSome k262) (AllT.leaf 518 512) (AllT.leaf 774 512) rfl rfl rfl
def tr134 : Tree Entry := .node none tr262 .leaf
theorem tk134 : AllT (Entry.ok CC LL) tr134 134 128 := AllT.mk allNone tk262 (AllT.leaf 390 256) rfl rfl rfl
def tr70 : Tree Entry := .node (some en70) tr134 tr198
theorem tk70 : AllT (Entry.ok CC LL) tr70 70 64 := AllT.mk (allSome k70) tk134 tk198 rfl rfl rfl
def tr38 : Tree Entry := .node (some en38) tr70 tr102
theorem tk38 : AllT (Entry.ok CC LL) tr38 38 32 := AllT.mk (allSome k38) tk70 tk102 rfl rfl rfl
def tr22 : Tree Entry := .node (some en22) tr38 tr54
theorem tk22 : AllT (Entry.ok CC LL) tr22 22 16 := AllT.mk (allSome k22) tk38 tk54 rfl rfl rfl
def tr14 : Tree Entry := .node (some en14) tr22 tr30
theorem tk14 : AllT (Entry.ok CC LL) tr14 14 8 := AllT.mk (allSome k14) tk22 tk30 rfl rfl rfl
def tr250 : Tree Entry := .node none .leaf .leaf
theorem tk250 : AllT (Entry.ok CC LL) tr250 250 128 := AllT.mk allNone (AllT.leaf 378 256) (AllT.leaf 506 256) rfl rfl rfl
def tr186 : Tree Entry := .node none .leaf .leaf
theorem tk186 : AllT (Entry.ok CC LL) tr186 186 128 := AllT.mk allNone (AllT.leaf 314 256) (AllT.leaf 442 256) rfl rfl rfl
def tr122 : Tree Entry := .node (some en122) tr186 tr250
theorem tk122 : AllT (Entry.ok CC LL) tr122 122 64 := AllT.mk (allSome k122) tk186 tk250 rfl rfl rfl
def tr218 : Tree Entry := .node (some en218) .leaf .leaf
theorem tk218 : AllT (Entry.ok CC LL) tr218 218 128 := AllT.mk (allSome k218) (AllT.leaf 346 256) (AllT.leaf 474 256) rfl rfl rfl
def tr154 : Tree Entry := .node none .leaf .leaf
theorem tk154 : AllT (Entry.ok CC LL) tr154 154 128 := AllT.mk allNone (AllT.leaf 282 256) (AllT.leaf 410 256) rfl rfl rfl
def tr90 : Tree Entry := .node (some en90) tr154 tr218
theorem tk90 : AllT (Entry.ok CC LL) tr90 90 64 := AllT.mk (allSome k90) tk154 tk218 rfl rfl rfl
def tr58 : Tree Entry := .node (some en58) tr90 tr122
theorem tk58 : AllT (Entry.ok CC LL) tr58 58 32 := AllT.mk (allSome k58) tk90 tk122 rfl rfl rfl
def tr234 : Tree Entry := .node (some en234) .leaf .leaf
theorem tk234 : AllT (Entry.ok CC LL) tr234 234 128 := AllT.mk (allSome k234) (AllT.leaf 362 256) (AllT.leaf 490 256) rfl rfl rfl
def tr170 : Tree Entry := .node (some en170) .leaf .leaf
theorem tk170 : AllT (Entry.ok CC LL) tr170 170 128 := AllT.mk (allSome k170) (AllT.leaf 298 256) (AllT.leaf 426 256) rfl rfl rfl
def tr106 : Tree Entry := .node (some en106) tr170 tr234
theorem tk106 : AllT (Entry.ok CC LL) tr106 106 64 := AllT.mk (allSome k106) tk170 tk234 rfl rfl rfl
def tr202 : Tree Entry := .node none .leaf .leaf
theorem tk202 : AllT (Entry.ok CC LL) tr202 202 128 := AllT.mk allNone (AllT.leaf 330 256) (AllT.leaf 458 256) rfl rfl rfl
def tr266 : Tree Entry := .node none .leaf .leaf
theorem tk266 : AllT (Entry.ok CC LL) tr266 266 256 := AllT.mk allNone (AllT.leaf 522 512) (AllT.leaf 778 512) rfl rfl rfl
def tr138 : Tree Entry := .node (some en138) tr266 .leaf
theorem tk138 : AllT (Entry.ok CC LL) tr138 138 128 := AllT.mk (allSome k138) tk266 (AllT.leaf 394 256) rfl rfl rfl
def tr74 : Tree Entry := .node (some en74) tr138 tr202
theorem tk74 : AllT (Entry.ok CC LL) tr74 74 64 := AllT.mk (allSome k74) tk138 tk202 rfl rfl rfl
def tr42 : Tree Entry := .node (some en42) tr74 tr106
theorem tk42 : AllT (Entry.ok CC LL) tr42 42 32 := AllT.mk (allSome k42) tk74 tk106 rfl rfl rfl
def tr26 : Tree Entry := .node (some en26) tr42 tr58
theorem tk26 : AllT (Entry.ok CC LL) tr26 26 16 := AllT.mk (allSome k26) tk42 tk58 rfl rfl rfl
def tr242 : Tree Entry := .node none .leaf .leaf
theorem tk242 : AllT (Entry.ok CC LL) tr242 242 128 := AllT.mk allNone (AllT.leaf 370 256) (AllT.leaf 498 256) rfl rfl rfl
def tr178 : Tree Entry := .node none .leaf .leaf
theorem tk178 : AllT (Entry.ok CC LL) tr178 178 128 := AllT.mk allNone (AllT.leaf 306 256) (AllT.leaf 434 256) rfl rfl rfl
def tr114 : Tree Entry := .node (some en114) tr178 tr242
theorem tk114 : AllT (Entry.ok CC LL) tr114 114 64 := AllT.mk (allSome k114) tk178 tk242 rfl rfl rfl
def tr210 : Tree Entry := .node none .leaf .leaf
theorem tk210 : AllT (Entry.ok CC LL) tr210 210 128 := AllT.mk allNone (AllT.leaf 338 256) (AllT.leaf 466 256) rfl rfl rfl
def tr146 : Tree Entry := .node (some en146) .leaf .leaf
theorem tk146 : AllT (Entry.ok CC LL) tr146 146 128 := AllT.mk (allSome k146) (AllT.leaf 274 256) (AllT.leaf 402 256) rfl rfl rfl
def tr82 : Tree Entry := .node (some en82) tr146 tr210
theorem tk82 : AllT (Entry.ok CC LL) tr82 82 64 := AllT.mk (allSome k82) tk146 tk210 rfl rfl rfl
def tr50 : Tree Entry := .node (some en50) tr82 tr114
theorem tk50 : AllT (Entry.ok CC LL) tr50 50 32 := AllT.mk (allSome k50) tk82 tk114 rfl rfl rfl
def tr226 : Tree Entry := .node none .leaf .leaf
theorem tk226 : AllT (Entry.ok CC LL) tr226 226 128 := AllT.mk allNone (AllT.leaf 354 256) (AllT.leaf 482 256) rfl rfl rfl
def tr162 : Tree Entry := .node none .leaf .leaf
theorem tk162 : AllT (Entry.ok CC LL) tr162 162 128 := AllT.mk allNone (AllT.leaf 290 256) (AllT.leaf 418 256) rfl rfl rfl
def tr98 : Tree Entry := .node (some en98) tr162 tr226
theorem tk98 : AllT (Entry.ok CC LL) tr98 98 64 := AllT.mk (allSome k98) tk162 tk226 rfl rfl rfl
def tr194 : Tree Entry := .node none .leaf .leaf
theorem tk194 : AllT (Entry.ok CC LL) tr194 194 128 := AllT.mk allNone (AllT.leaf 322 256) (AllT.leaf 450 256) rfl rfl rfl
def tr258 : Tree Entry := .node none .leaf .leaf
theorem tk258 : AllT (Entry.ok CC LL) tr258 258 256 := AllT.mk allNone (AllT.leaf 514 512) (AllT.leaf 770 512) rfl rfl rfl
def tr130 : Tree Entry := .node (some en130) tr258 .leaf
theorem tk130 : AllT (Entry.ok CC LL) tr130 130 128 := AllT.mk (allSome k130) tk258 (AllT.leaf 386 256) rfl rfl rfl
def tr66 : Tree Entry := .node (some en66) tr130 tr194
theorem tk66 : AllT (Entry.ok CC LL) tr66 66 64 := AllT.mk (allSome k66) tk130 tk194 rfl rfl rfl
def tr34 : Tree Entry := .node (some en34) tr66 tr98
theorem tk34 : AllT (Entry.ok CC LL) tr34 34 32 := AllT.mk (allSome k34) tk66 tk98 rfl rfl rfl
def tr18 : Tree Entry := .node (some en18) tr34 tr50
theorem tk18 : AllT (Entry.ok CC LL) tr18 18 16 := AllT.mk (allSome k18) tk34 tk50 rfl rfl rfl
def tr10 : Tree Entry := .node (some en10) tr18 tr26
theorem tk10 : AllT (Entry.ok CC LL) tr10 10 8 := AllT.mk (allSome k10) tk18 tk26 rfl rfl rfl
def tr6 : Tree Entry := .node (some en6) tr10 tr14
theorem tk6 : AllT (Entry.ok CC LL) tr6 6 4 := AllT.mk (allSome k6) tk10 tk14 rfl rfl rfl
def tr252 : Tree Entry := .node none .leaf .leaf
theorem tk252 : AllT (Entry.ok CC LL) tr252 252 128 := AllT.mk allNone (AllT.leaf 380 256) (AllT.leaf 508 256) rfl rfl rfl
def tr188 : Tree Entry := .node none .leaf .leaf
theorem tk188 : AllT (Entry.ok CC LL) tr188 188 128 := AllT.mk allNone (AllT.leaf 316 256) (AllT.leaf 444 256) rfl rfl rfl
def tr124 : Tree Entry := .node (some en124) tr188 tr252
theorem tk124 : AllT (Entry.ok CC LL) tr124 124 64 := AllT.mk (allSome k124) tk188 tk252 rfl rfl rfl
def tr220 : Tree Entry := .node none .leaf .leaf
theorem tk220 : AllT (Entry.ok CC LL) tr220 220 128 := AllT.mk allNone (AllT.leaf 348 256) (AllT.leaf 476 256) rfl rfl rfl
def tr156 : Tree Entry := .node none .leaf .leaf
theorem tk156 : AllT (Entry.ok CC LL) tr156 156 128 := AllT.mk allNone (AllT.leaf 284 256) (AllT.leaf 412 256) rfl rfl rfl
def tr92 : Tree Entry := .node (some en92) tr156 tr220
theorem tk92 : AllT (Entry.ok CC LL) tr92 92 64 := AllT.mk (allSome k92) tk156 tk220 rfl rfl rfl
def tr60 : Tree Entry := .node (some en60) tr92 tr124
theorem tk60 : AllT (Entry.ok CC LL) tr60 60 32 := AllT.mk (allSome k60) tk92 tk124 rfl rfl rfl
def tr236 : Tree Entry := .node none .leaf .leaf
theorem tk236 : AllT (Entry.ok CC LL) tr236 236 128 := AllT.mk allNone (AllT.leaf 364 256) (AllT.leaf 492 256) rfl rfl rfl
def tr172 : Tree Entry := .node none .leaf .leaf
theorem tk172 : AllT (Entry.ok CC LL) tr172 172 128 := AllT.mk allNone (AllT.leaf 300 256) (AllT.leaf 428 256) rfl rfl rfl
def tr108 : Tree Entry := .node (some en108) tr172 tr236
theorem tk108 : AllT (Entry.ok CC LL) tr108 108 64 := AllT.mk (allSome k108) tk172 tk236 rfl rfl rfl
def tr204 : Tree Entry := .node none .leaf .leaf
theorem tk204 : AllT (Entry.ok CC LL) tr204 204 128 := AllT.mk allNone (AllT.leaf 332 256) (AllT.leaf 460 256) rfl rfl rfl
def tr268 : Tree Entry := .node none .leaf .leaf
theorem tk268 : AllT (Entry.ok CC LL) tr268 268 256 := AllT.mk allNone (AllT.leaf 524 512) (AllT.leaf 780 512) rfl rfl rfl
def tr140 : Tree Entry := .node (some en140) tr268 .leaf
theorem tk140 : AllT (Entry.ok CC LL) tr140 140 128 := AllT.mk (allSome k140) tk268 (AllT.leaf 396 256) rfl rfl rfl
def tr76 : Tree Entry := .node (some en76) tr140 tr204
theorem tk76 : AllT (Entry.ok CC LL) tr76 76 64 := AllT.mk (allSome k76) tk140 tk204 rfl rfl rfl
def tr44 : Tree Entry := .node (some en44) tr76 tr108
theorem tk44 : AllT (Entry.ok CC LL) tr44 44 32 := AllT.mk (allSome k44) tk76 tk108 rfl rfl rfl
def tr28 : Tree Entry := .node (some en28) tr44 tr60
theorem tk28 : AllT (Entry.ok CC LL) tr28 28 16 := AllT.mk (allSome k28) tk44 tk60 rfl rfl rfl
def tr244 : Tree Entry := .node none .leaf .leaf
theorem tk244 : AllT (Entry.ok CC LL) tr244 244 128 := AllT.mk allNone (AllT.leaf 372 256) (AllT.leaf 500 256) rfl rfl rfl
def tr180 : Tree Entry := .node none .leaf .leaf
theorem tk180 : AllT (Entry.ok CC LL) tr180 180 128 := AllT.mk allNone (AllT.leaf 308 256) (AllT.leaf 436 256) rfl rfl rfl
def tr116 : Tree Entry := .node (some en116) tr180 tr244
theorem tk116 : AllT (Entry.ok CC LL) tr116 116 64 := AllT.mk (allSome k116) tk180 tk244 rfl rfl rfl
def tr212 : Tree Entry := .node none .leaf .leaf
theorem tk212 : AllT (Entry.ok CC LL) tr212 212 128 := AllT.mk allNone (AllT.leaf 340 256) (AllT.leaf 468 256) rfl rfl rfl
def tr148 : Tree Entry := .node (some en148) .leaf .leaf
theorem tk148 : AllT (Entry.ok CC LL) tr148 148 128 := AllT.mk (allSome k148) (AllT.leaf 276 256) (AllT.leaf 404 256) rfl rfl rfl
def tr84 : Tree Entry := .node (some en84) tr148 tr212
theorem tk84 : AllT (Entry.ok CC LL) tr84 84 64 := AllT.mk (allSome k84) tk148 tk212 rfl rfl rfl
def tr52 : Tree Entry := .node (some en52) tr84 tr116
theorem tk52 : AllT (Entry.ok CC LL) tr52 52 32 := AllT.mk (allSome k52) tk84 tk116 rfl rfl rfl
def tr228 : Tree Entry := .node (some en228) .leaf .leaf
theorem tk228 : AllT (Entry.ok CC LL) tr228 228 128 := AllT.mk (allSome k228) (AllT.leaf 356 256) (AllT.leaf 484 256) rfl rfl rfl
def tr164 : Tree Entry := .node (some en164) .leaf .leaf
theorem tk164 : AllT (Entry.ok CC LL) tr164 164 128 := AllT.mk (allSome k164) (AllT.leaf 292 256) (AllT.leaf 420 256) rfl rfl rfl
def tr100 : Tree Entry := .node (some en100) tr164 tr228
theorem tk100 : AllT (Entry.ok CC LL) tr100 100 64 := AllT.mk (allSome k100) tk164 tk228 rfl rfl rfl
def tr196 : Tree Entry := .node (some en196) .leaf .leaf
theorem tk196 : AllT (Entry.ok CC LL) tr196 196 128 := AllT.mk (allSome k196) (AllT.leaf 324 256) (AllT.leaf 452 256) rfl rfl rfl
def tr260 : Tree Entry := .node none .leaf .leaf
theorem tk260 : AllT (Entry.ok CC LL) tr260 260 256 := AllT.mk allNone (AllT.leaf 516 512) (AllT.leaf 772 512) rfl rfl rfl
def tr132 : Tree Entry := .node (some en132) tr260 .leaf
theorem tk132 : AllT (Entry.ok CC LL) tr132 132 128 := AllT.mk (allSome k132) tk260 (AllT.leaf 388 256) rfl rfl rfl
def tr68 : Tree Entry := .node none tr132 tr196
theorem tk68 : AllT (Entry.ok CC LL) tr68 68 64 := AllT.mk allNone tk132 tk196 rfl rfl rfl
def tr36 : Tree Entry := .node (some en36) tr68 tr100
theorem tk36 : AllT (Entry.ok CC LL) tr36 36 32 := AllT.mk (allSome k36) tk68 tk100 rfl rfl rfl
def tr20 : Tree Entry := .node (some en20) tr36 tr52
theorem tk20 : AllT (Entry.ok CC LL) tr20 20 16 := AllT.mk (allSome k20) tk36 tk52 rfl rfl rfl
def tr12 : Tree Entry := .node (some en12) tr20 tr28
theorem tk12 : AllT (Entry.ok CC LL) tr12 12 8 := AllT.mk (allSome k12) tk20 tk28 rfl rfl rfl
def tr248 : Tree Entry := .node none .leaf .leaf
theorem tk248 : AllT (Entry.ok CC LL) tr248 248 128 := AllT.mk allNone (AllT.leaf 376 256) (AllT.leaf 504 256) rfl rfl rfl
def tr184 : Tree Entry := .node none .leaf .leaf
theorem tk184 : AllT (Entry.ok CC LL) tr184 184 128 := AllT.mk allNone (AllT.leaf 312 256) (AllT.leaf 440 256) rfl rfl rfl
def tr120 : Tree Entry := .node (some en120) tr184 tr248
theorem tk120 : AllT (Entry.ok CC LL) tr120 120 64 := AllT.mk (allSome k120) tk184 tk248 rfl rfl rfl
def tr216 : Tree Entry := .node none .leaf .leaf
theorem tk216 : AllT (Entry.ok CC LL) tr216 216 128 := AllT.mk allNone (AllT.leaf 344 256) (AllT.leaf 472 256) rfl rfl rfl
def tr152 : Tree Entry := .node none .leaf .leaf
theorem tk152 : AllT (Entry.ok CC LL) tr152 152 128 := AllT.mk allNone (AllT.leaf 280 256) (AllT.leaf 408 256) rfl rfl rfl
def tr88 : Tree Entry := .node (some en88) tr152 tr216
theorem tk88 : AllT (Entry.ok CC LL) tr88 88 64 := AllT.mk (allSome k88) tk152 tk216 rfl rfl rfl
def tr56 : Tree Entry := .node (some en56) tr88 tr120
theorem tk56 : AllT (Entry.ok CC LL) tr56 56 32 := AllT.mk (allSome k56) tk88 tk120 rfl rfl rfl
def tr232 : Tree Entry := .node none .leaf .leaf
theorem tk232 : AllT (Entry.ok CC LL) tr232 232 128 := AllT.mk allNone (AllT.leaf 360 256) (AllT.leaf 488 256) rfl rfl rfl
def tr168 : Tree Entry := .node (some en168) .leaf .leaf
theorem tk168 : AllT (Entry.ok CC LL) tr168 168 128 := AllT.mk (allSome k168) (AllT.leaf 296 256) (AllT.leaf 424 256) rfl rfl rfl
def tr104 : Tree Entry := .node (some en104) tr168 tr232
theorem tk104 : AllT (Entry.ok CC LL) tr104 104 64 := AllT.mk (allSome k104) tk168 tk232 rfl rfl rfl
def tr200 : Tree Entry := .node none .leaf .leaf
theorem tk200 : AllT (Entry.ok CC LL) tr200 200 128 := AllT.mk allNone (AllT.leaf 328 256) (AllT.leaf 456 256) rfl rfl rfl
def tr264 : Tree Entry := .node none .leaf .leaf
theorem tk264 : AllT (Entry.ok CC LL) tr264 264 256 := AllT.mk allNone (AllT.leaf 520 512) (AllT.leaf 776 512) rfl rfl rfl
def tr136 : Tree Entry := .node (some en136) tr264 .leaf
theorem tk136 : AllT (Entry.ok CC LL) tr136 136 128 := AllT.mk (allSome k136) tk264 (AllT.leaf 392 256) rfl rfl rfl
def tr72 : Tree Entry := .node (some en72) tr136 tr200
theorem tk72 : AllT (Entry.ok CC LL) tr72 72 64 := AllT.mk (allSome k72) tk136 tk200 rfl rfl rfl
def tr40 : Tree Entry := .node (some en40) tr72 tr104
theorem tk40 : AllT (Entry.ok CC LL) tr40 40 32 := AllT.mk (allSome k40) tk72 tk104 rfl rfl rfl
def tr24 : Tree Entry := .node (some en24) tr40 tr56
theorem tk24 : AllT (Entry.ok CC LL) tr24 24 16 := AllT.mk (allSome k24) tk40 tk56 rfl rfl rfl
def tr240 : Tree Entry := .node none .leaf .leaf
theorem tk240 : AllT (Entry.ok CC LL) tr240 240 128 := AllT.mk allNone (AllT.leaf 368 256) (AllT.leaf 496 256) rfl rfl rfl
def tr176 : Tree Entry := .node none .leaf .leaf
theorem tk176 : AllT (Entry.ok CC LL) tr176 176 128 := AllT.mk allNone (AllT.leaf 304 256) (AllT.leaf 432 256) rfl rfl rfl
def tr112 : Tree Entry := .node (some en112) tr176 tr240
theorem tk112 : AllT (Entry.ok CC LL) tr112 112 64 := AllT.mk (allSome k112) tk176 tk240 rfl rfl rfl
def tr208 : Tree Entry := .node none .leaf .leaf
theorem tk208 : AllT (Entry.ok CC LL) tr208 208 128 := AllT.mk allNone (AllT.leaf 336 256) (AllT.leaf 464 256) rfl rfl rfl
def tr144 : Tree Entry := .node (some en144) .leaf .leaf
theorem tk144 : AllT (Entry.ok CC LL) tr144 144 128 := AllT.mk (allSome k144) (AllT.leaf 272 256) (AllT.leaf 400 256) rfl rfl rfl
def tr80 : Tree Entry := .node (some en80) tr144 tr208
theorem tk80 : AllT (Entry.ok CC LL) tr80 80 64 := AllT.mk (allSome k80) tk144 tk208 rfl rfl rfl
def tr48 : Tree Entry := .node (some en48) tr80 tr112
theorem tk48 : AllT (Entry.ok CC LL) tr48 48 32 := AllT.mk (allSome k48) tk80 tk112 rfl rfl rfl
def tr224 : Tree Entry := .node none .leaf .leaf
theorem tk224 : AllT (Entry.ok CC LL) tr224 224 128 := AllT.mk allNone (AllT.leaf 352 256) (AllT.leaf 480 256) rfl rfl rfl
def tr160 : Tree Entry := .node (some en160) .leaf .leaf
theorem tk160 : AllT (Entry.ok CC LL) tr160 160 128 := AllT.mk (allSome k160) (AllT.leaf 288 256) (AllT.leaf 416 256) rfl rfl rfl
def tr96 : Tree Entry := .node (some en96) tr160 tr224
theorem tk96 : AllT (Entry.ok CC LL) tr96 96 64 := AllT.mk (allSome k96) tk160 tk224 rfl rfl rfl
def tr192 : Tree Entry := .node none .leaf .leaf
theorem tk192 : AllT (Entry.ok CC LL) tr192 192 128 := AllT.mk allNone (AllT.leaf 320 256) (AllT.leaf 448 256) rfl rfl rfl
def tr256 : Tree Entry := .node (some en256) .leaf .leaf
theorem tk256 : AllT (Entry.ok CC LL) tr256 256 256 := AllT.mk (allSome k256) (AllT.leaf 512 512) (AllT.leaf 768 512) rfl rfl rfl
def tr128 : Tree Entry := .node (some en128) tr256 .leaf
theorem tk128 : AllT (Entry.ok CC LL) tr128 128 128 := AllT.mk (allSome k128) tk256 (AllT.leaf 384 256) rfl rfl rfl
def tr64 : Tree Entry := .node (some en64) tr128 tr192
theorem tk64 : AllT (Entry.ok CC LL) tr64 64 64 := AllT.mk (allSome k64) tk128 tk192 rfl rfl rfl
def tr32 : Tree Entry := .node (some en32) tr64 tr96
theorem tk32 : AllT (Entry.ok CC LL) tr32 32 32 := AllT.mk (allSome k32) tk64 tk96 rfl rfl rfl
def tr16 : Tree Entry := .node (some en16) tr32 tr48
theorem tk16 : AllT (Entry.ok CC LL) tr16 16 16 := AllT.mk (allSome k16) tk32 tk48 rfl rfl rfl
def tr8 : Tree Entry := .node (some en8) tr16 tr24
theorem tk8 : AllT (Entry.ok CC LL) tr8 8 8 := AllT.mk (allSome k8) tk16 tk24 rfl rfl rfl
def tr4 : Tree Entry := .node none tr8 tr12
theorem tk4 : AllT (Entry.ok CC LL) tr4 4 4 := AllT.mk allNone tk8 tk12 rfl rfl rfl
def tr2 : Tree Entry := .node none tr4 tr6
theorem tk2 : AllT (Entry.ok CC LL) tr2 2 2 := AllT.mk allNone tk4 tk6 rfl rfl rfl
def tr253 : Tree Entry := .node none .leaf .leaf
theorem tk253 : AllT (Entry.ok CC LL) tr253 253 128 := AllT.mk allNone (AllT.leaf 381 256) (AllT.leaf 509 256) rfl rfl rfl
def tr189 : Tree Entry := .node none .leaf .leaf
theorem tk189 : AllT (Entry.ok CC LL) tr189 189 128 := AllT.mk allNone (AllT.leaf 317 256) (AllT.leaf 445 256) rfl rfl rfl
def tr125 : Tree Entry := .node (some en125) tr189 tr253
theorem tk125 : AllT (Entry.ok CC LL) tr125 125 64 := AllT.mk (allSome k125) tk189 tk253 rfl rfl rfl
def tr221 : Tree Entry := .node none .leaf .leaf
theorem tk221 : AllT (Entry.ok CC LL) tr221 221 128 := AllT.mk allNone (AllT.leaf 349 256) (AllT.leaf 477 256) rfl rfl rfl
def tr157 : Tree Entry := .node none .leaf .leaf
theorem tk157 : AllT (Entry.ok CC LL) tr157 157 128 := AllT.mk allNone (AllT.leaf 285 256) (AllT.leaf 413 256) rfl rfl rfl
def tr93 : Tree Entry := .node (some en93) tr157 tr221
theorem tk93 : AllT (Entry.ok CC LL) tr93 93 64 := AllT.mk (allSome k93) tk157 tk221 rfl rfl rfl
def tr61 : Tree Entry := .node (some en61) tr93 tr125
theorem tk61 : AllT (Entry.ok CC LL) tr61 61 32 := AllT.mk (allSome k61) tk93 tk125 rfl rfl rfl
def tr237 : Tree Entry := .node none .leaf .leaf
theorem tk237 : AllT (Entry.ok CC LL) tr237 237 128 := AllT.mk allNone (AllT.leaf 365 256) (AllT.leaf 493 256) rfl rfl rfl
def tr173 : Tree Entry := .node none .leaf .leaf
theorem tk173 : AllT (Entry.ok CC LL) tr173 173 128 := AllT.mk allNone (AllT.leaf 301 256) (AllT.leaf 429 256) rfl rfl rfl
def tr109 : Tree Entry := .node (some en109) tr173 tr237
theorem tk109 : AllT (Entry.ok CC LL) tr109 109 64 := AllT.mk (allSome k109) tk173 tk237 rfl rfl rfl
def tr205 : Tree Entry := .node none .leaf .leaf
theorem tk205 : AllT (Entry.ok CC LL) tr205 205 128 := AllT.mk allNone (AllT.leaf 333 256) (AllT.leaf 461 256) rfl rfl rfl
def tr269 : Tree Entry := .node none .leaf .leaf
theorem tk269 : AllT (Entry.ok CC LL) tr269 269 256 := AllT.mk allNone (AllT.leaf 525 512) (AllT.leaf 781 512) rfl rfl rfl
def tr141 : Tree Entry := .node (some en141) tr269 .leaf
theorem tk141 : AllT (Entry.ok CC LL) tr141 141 128 := AllT.mk (allSome k141) tk269 (AllT.leaf 397 256) rfl rfl rfl
def tr77 : Tree Entry := .node (some en77) tr141 tr205
theorem tk77 : AllT (Entry.ok CC LL) tr77 77 64 := AllT.mk (allSome k77) tk141 tk205 rfl rfl rfl
def tr45 : Tree Entry := .node (some en45) tr77 tr109
theorem tk45 : AllT (Entry.ok CC LL) tr45 45 32 := AllT.mk (allSome k45) tk77 tk109 rfl rfl rfl
def tr29 : Tree Entry := .node (some en29) tr45 tr61
theorem tk29 : AllT (Entry.ok CC LL) tr29 29 16 := AllT.mk (allSome k29) tk45 tk61 rfl rfl rfl
def tr245 : Tree Entry := .node none .leaf .leaf
theorem tk245 : AllT (Entry.ok CC LL) tr245 245 128 := AllT.mk allNone (AllT.leaf 373 256) (AllT.leaf 501 256) rfl rfl rfl
def tr181 : Tree Entry := .node none .leaf .leaf
theorem tk181 : AllT (Entry.ok CC LL) tr181 181 128 := AllT.mk allNone (AllT.leaf 309 256) (AllT.leaf 437 256) rfl rfl rfl
def tr117 : Tree Entry := .node (some en117) tr181 tr245
theorem tk117 : AllT (Entry.ok CC LL) tr117 117 64 := AllT.mk (allSome k117) tk181 tk245 rfl rfl rfl
def tr213 : Tree Entry := .node none .leaf .leaf
theorem tk213 : AllT (Entry.ok CC LL) tr213 213 128 := AllT.mk allNone (AllT.leaf 341 256) (AllT.leaf 469 256) rfl rfl rfl
def tr149 : Tree Entry := .node (some en149) .leaf .leaf
theorem tk149 : AllT (Entry.ok CC LL) tr149 149 128 := AllT.mk (allSome k149) (AllT.leaf 277 256) (AllT.leaf 405 256) rfl rfl rfl
def tr85 : Tree Entry := .node (some en85) tr149 tr213
theorem tk85 : AllT (Entry.ok CC LL) tr85 85 64 := AllT.mk (allSome k85) tk149 tk213 rfl rfl rfl
def tr53 : Tree Entry := .node (some en53) tr85 tr117
theorem tk53 : AllT (Entry.ok CC LL) tr53 53 32 := AllT.mk (allSome k53) tk85 tk117 rfl rfl rfl
def tr229 : Tree Entry := .node (some en229) .leaf .leaf
theorem tk229 : AllT (Entry.ok CC LL) tr229 229 128 := AllT.mk (allSome k229) (AllT.leaf 357 256) (AllT.leaf 485 256) rfl rfl rfl
def tr165 : Tree Entry := .node none .leaf .leaf
theorem tk165 : AllT (Entry.ok CC LL) tr165 165 128 := AllT.mk allNone (AllT.leaf 293 256) (AllT.leaf 421 256) rfl rfl rfl
def tr101 : Tree Entry := .node none tr165 tr229
theorem tk101 : AllT (Entry.ok CC LL) tr101 101 64 := AllT.mk allNone tk165 tk229 rfl rfl rfl
def tr197 : Tree Entry := .node (some en197) .leaf .leaf
theorem tk197 : AllT (Entry.ok CC LL) tr197 197 128 := AllT.mk (allSome k197) (AllT.leaf 325 256) (AllT.leaf 453 256) rfl rfl rfl
def tr261 : Tree Entry := .node none .leaf .leaf
theorem tk261 : AllT (Entry.ok CC LL) tr261 261 256 := AllT.mk allNone (AllT.leaf 517 512) (AllT.leaf 773 512) rfl rfl rfl
def tr133 : Tree Entry := .node none tr261 .leaf
theorem tk133 : AllT (Entry.ok CC LL) tr133 133 128 := AllT.mk allNone tk261 (AllT.leaf 389 256) rfl rfl rfl
def tr69 : Tree Entry := .node (some en69) tr133 tr197
theorem tk69 : AllT (Entry.ok CC LL) tr69 69 64 := AllT.mk (allSome k69) tk133 tk197 rfl rfl rfl
def tr37 : Tree Entry := .node (some en37) tr69 tr101
theorem tk37 : AllT (Entry.ok CC LL) tr37 37 32 := AllT.mk (allSome k37) tk69 tk101 rfl rfl rfl
def tr21 : Tree Entry := .node (some en21) tr37 tr53
theorem tk21 : AllT (Entry.ok CC LL) tr21 21 16 := AllT.mk (allSome k21) tk37 tk53 rfl rfl rfl
def tr13 : Tree Entry := .node (some en13) tr21 tr29
theorem tk13 : AllT (Entry.ok CC LL) tr13 13 8 := AllT.mk (allSome k13) tk21 tk29 rfl rfl rfl
def tr249 : Tree Entry := .node none .leaf .leaf
theorem tk249 : AllT (Entry.ok CC LL) tr249 249 128 := AllT.mk allNone (AllT.leaf 377 256) (AllT.leaf 505 256) rfl rfl rfl
def tr185 : Tree Entry := .node none .leaf .leaf
theorem tk185 : AllT (Entry.ok CC LL) tr185 185 128 := AllT.mk allNone (AllT.leaf 313 256) (AllT.leaf 441 256) rfl rfl rfl
def tr121 : Tree Entry := .node (some en121) tr185 tr249
theorem tk121 : AllT (Entry.ok CC LL) tr121 121 64 := AllT.mk (allSome k121) tk185 tk249 rfl rfl rfl
def tr217 : Tree Entry := .node (some en217) .leaf .leaf
theorem tk217 : AllT (Entry.ok CC LL) tr217 217 128 := AllT.mk (allSome k217) (AllT.leaf 345 256) (AllT.leaf 473 256) rfl rfl rfl
def tr153 : Tree Entry := .node none .leaf .leaf
theorem tk153 : AllT (Entry.ok CC LL) tr153 153 128 := AllT.mk allNone (AllT.leaf 281 256) (AllT.leaf 409 256) rfl rfl rfl
def tr89 : Tree Entry := .node (some en89) tr153 tr217
theorem tk89 : AllT (Entry.ok CC LL) tr89 89 64 := AllT.mk (allSome k89) tk153 tk217 rfl rfl rfl
def tr57 : Tree Entry := .node (some en57) tr89 tr121
theorem tk57 : AllT (Entry.ok CC LL) tr57 57 32 := AllT.mk (allSome k57) tk89 tk121 rfl rfl rfl
def tr233 : Tree Entry := .node (some en233) .leaf .leaf
theorem tk233 : AllT (Entry.ok CC LL) tr233 233 128 := AllT.mk (allSome k233) (AllT.leaf 361 256) (AllT.leaf 489 256) rfl rfl rfl
def tr169 : Tree Entry := .node none .leaf .leaf
theorem tk169 : AllT (Entry.ok CC LL) tr169 169 128 := AllT.mk allNone (AllT.leaf 297 256) (AllT.leaf 425 256) rfl rfl rfl
def tr105 : Tree Entry := .node (some en105) tr169 tr233
theorem tk105 : AllT (Entry.ok CC LL) tr105 105 64 := AllT.mk (allSome k105) tk169 tk233 rfl rfl rfl
def tr201 : Tree Entry := .node none .leaf .leaf
theorem tk201 : AllT (Entry.ok CC LL) tr201 201 128 := AllT.mk allNone (AllT.leaf 329 256) (AllT.leaf 457 256) rfl rfl rfl
def tr265 : Tree Entry := .node none .leaf .leaf
theorem tk265 : AllT (Entry.ok CC LL) tr265 265 256 := AllT.mk allNone (AllT.leaf 521 512) (AllT.leaf 777 512) rfl rfl rfl
def tr137 : Tree Entry := .node (some en137) tr265 .leaf
theorem tk137 : AllT (Entry.ok CC LL) tr137 137 128 := AllT.mk (allSome k137) tk265 (AllT.leaf 393 256) rfl rfl rfl
def tr73 : Tree Entry := .node none tr137 tr201
theorem tk73 : AllT (Entry.ok CC LL) tr73 73 64 := AllT.mk allNone tk137 tk201 rfl rfl rfl
def tr41 : Tree Entry := .node (some en41) tr73 tr105
theorem tk41 : AllT (Entry.ok CC LL) tr41 41 32 := AllT.mk (allSome k41) tk73 tk105 rfl rfl rfl
def tr25 : Tree Entry := .node (some en25) tr41 tr57
theorem tk25 : AllT (Entry.ok CC LL) tr25 25 16 := AllT.mk (allSome k25) tk41 tk57 rfl rfl rfl
def tr241 : Tree Entry := .node none .leaf .leaf
theorem tk241 : AllT (Entry.ok CC LL) tr241 241 128 := AllT.mk allNone (AllT.leaf 369 256) (AllT.leaf 497 256) rfl rfl rfl
def tr177 : Tree Entry := .node none .leaf .leaf
theorem tk177 : AllT (Entry.ok CC LL) tr177 177 128 := AllT.mk allNone (AllT.leaf 305 256) (AllT.leaf 433 256) rfl rfl rfl
def tr113 : Tree Entry := .node (some en113) tr177 tr241
theorem tk113 : AllT (Entry.ok CC LL) tr113 113 64 := AllT.mk (allSome k113) tk177 tk241 rfl rfl rfl
def tr209 : Tree Entry := .node none .leaf .leaf
theorem tk209 : AllT (Entry.ok CC LL) tr209 209 128 := AllT.mk allNone (AllT.leaf 337 256) (AllT.leaf 465 256) rfl rfl rfl
def tr145 : Tree Entry := .node (some en145) .leaf .leaf
theorem tk145 : AllT (Entry.ok CC LL) tr145 145 128 := AllT.mk (allSome k145) (AllT.leaf 273 256) (AllT.leaf 401 256) rfl rfl rfl
def tr81 : Tree Entry := .node (some en81) tr145 tr209
theorem tk81 : AllT (Entry.ok CC LL) tr81 81 64 := AllT.mk (allSome k81) tk145 tk209 rfl rfl rfl
def tr49 : Tree Entry := .node (some en49) tr81 tr113
theorem tk49 : AllT (Entry.ok CC LL) tr49 49 32 := AllT.mk (allSome k49) tk81 tk113 rfl rfl rfl
def tr225 : Tree Entry := .node none .leaf .leaf
theorem tk225 : AllT (Entry.ok CC LL) tr225 225 128 := AllT.mk allNone (AllT.leaf 353 256) (AllT.leaf 481 256) rfl rfl rfl
def tr161 : Tree Entry := .node (some en161) .leaf .leaf
theorem tk161 : AllT (Entry.ok CC LL) tr161 161 128 := AllT.mk (allSome k161) (AllT.leaf 289 256) (AllT.leaf 417 256) rfl rfl rfl
def tr97 : Tree Entry := .node (some en97) tr161 tr225
theorem tk97 : AllT (Entry.ok CC LL) tr97 97 64 := AllT.mk (allSome k97) tk161 tk225 rfl rfl rfl
def tr193 : Tree Entry := .node none .leaf .leaf
theorem tk193 : AllT (Entry.ok CC LL) tr193 193 128 := AllT.mk allNone (AllT.leaf 321 256) (AllT.leaf 449 256) rfl rfl rfl
def tr257 : Tree Entry := .node (some en257) .leaf .leaf
theorem tk257 : AllT (Entry.ok CC LL) tr257 257 256 := AllT.mk (allSome k257) (AllT.leaf 513 512) (AllT.leaf 769 512) rfl rfl rfl
def tr129 : Tree Entry := .node (some en129) tr257 .leaf
theorem tk129 : AllT (Entry.ok CC LL) tr129 129 128 := AllT.mk (allSome k129) tk257 (AllT.leaf 385 256) rfl rfl rfl
def tr65 : Tree Entry := .node (some en65) tr129 tr193
theorem tk65 : AllT (Entry.ok CC LL) tr65 65 64 := AllT.mk (allSome k65) tk129 tk193 rfl rfl rfl
def tr33 : Tree Entry := .node (some en33) tr65 tr97
theorem tk33 : AllT (Entry.ok CC LL) tr33 33 32 := AllT.mk (allSome k33) tk65 tk97 rfl rfl rfl
def tr17 : Tree Entry := .node (some en17) tr33 tr49
theorem tk17 : AllT (Entry.ok CC LL) tr17 17 16 := AllT.mk (allSome k17) tk33 tk49 rfl rfl rfl
def tr9 : Tree Entry := .node (some en9) tr17 tr25
theorem tk9 : AllT (Entry.ok CC LL) tr9 9 8 := AllT.mk (allSome k9) tk17 tk25 rfl rfl rfl
def tr5 : Tree Entry := .node none tr9 tr13
theorem tk5 : AllT (Entry.ok CC LL) tr5 5 4 := AllT.mk allNone tk9 tk13 rfl rfl rfl
def tr251 : Tree Entry := .node none .leaf .leaf
theorem tk251 : AllT (Entry.ok CC LL) tr251 251 128 := AllT.mk allNone (AllT.leaf 379 256) (AllT.leaf 507 256) rfl rfl rfl
def tr187 : Tree Entry := .node (some en187) .leaf .leaf
theorem tk187 : AllT (Entry.ok CC LL) tr187 187 128 := AllT.mk (allSome k187) (AllT.leaf 315 256) (AllT.leaf 443 256) rfl rfl rfl
def tr123 : Tree Entry := .node (some en123) tr187 tr251
theorem tk123 : AllT (Entry.ok CC LL) tr123 123 64 := AllT.mk (allSome k123) tk187 tk251 rfl rfl rfl
def tr219 : Tree Entry := .node none .leaf .leaf
theorem tk219 : AllT (Entry.ok CC LL) tr219 219 128 := AllT.mk allNone (AllT.leaf 347 256) (AllT.leaf 475 256) rfl rfl rfl
def tr155 : Tree Entry := .node none .leaf .leaf
theorem tk155 : AllT (Entry.ok CC LL) tr155 155 128 := AllT.mk allNone (AllT.leaf 283 256) (AllT.leaf 411 256) rfl rfl rfl
def tr91 : Tree Entry := .node (some en91) tr155 tr219
theorem tk91 : AllT (Entry.ok CC LL) tr91 91 64 := AllT.mk (allSome k91) tk155 tk219 rfl rfl rfl
def tr59 : Tree Entry := .node none tr91 tr123
theorem tk59 : AllT (Entry.ok CC LL) tr59 59 32 := AllT.mk allNone tk91 tk123 rfl rfl rfl
def tr235 : Tree Entry := .node none .leaf .leaf
theorem tk235 : AllT (Entry.ok CC LL) tr235 235 128 := AllT.mk allNone (AllT.leaf 363 256) (AllT.leaf 491 256) rfl rfl rfl
def tr171 : Tree Entry := .node (some en171) .leaf .leaf
theorem tk171 : AllT (Entry.ok CC LL) tr171 171 128 := AllT.mk (allSome k171) (AllT.leaf 299 256) (AllT.leaf 427 256) rfl rfl rfl
def tr107 : Tree Entry := .node (some en107) tr171 tr235
theorem tk107 : AllT (Entry.ok CC LL) tr107 107 64 := AllT.mk (allSome k107) tk171 tk235 rfl rfl rfl
def tr203 : Tree Entry := .node none .leaf .leaf
theorem tk203 : AllT (Entry.ok CC LL) tr203 203 128 := AllT.mk allNone (AllT.leaf 331 256) (AllT.leaf 459 256) rfl rfl rfl
def tr267 : Tree Entry := .node none .leaf .leaf
theorem tk267 : AllT (Entry.ok CC LL) tr267 267 256 := AllT.mk allNone (AllT.leaf 523 512) (AllT.leaf 779 512) rfl rfl rfl
def tr139 : Tree Entry := .node (some en139) tr267 .leaf
theorem tk139 : AllT (Entry.ok CC LL) tr139 139 128 := AllT.mk (allSome k139) tk267 (AllT.leaf 395 256) rfl rfl rfl
def tr75 : Tree Entry := .node (some en75) tr139 tr203
theorem tk75 : AllT (Entry.ok CC LL) tr75 75 64 := AllT.mk (allSome k75) tk139 tk203 rfl rfl rfl
def tr43 : Tree Entry := .node (some en43) tr75 tr107
theorem tk43 : AllT (Entry.ok CC LL) tr43 43 32 := AllT.mk (allSome k43) tk75 tk107 rfl rfl rfl
def tr27 : Tree Entry := .node (some en27) tr43 tr59
theorem tk27 : AllT (Entry.ok CC LL) tr27 27 16 := AllT.mk (allSome k27) tk43 tk59 rfl rfl rfl
def tr243 : Tree Entry := .node none .leaf .leaf
theorem tk243 : AllT (Entry.ok CC LL) tr243 243 128 := AllT.mk allNone (AllT.leaf 371 256) (AllT.leaf 499 256) rfl rfl rfl
def tr179 : Tree Entry := .node none .leaf .leaf
theorem tk179 : AllT (Entry.ok CC LL) tr179 179 128 := AllT.mk allNone (AllT.leaf 307 256) (AllT.leaf 435 256) rfl rfl rfl
def tr115 : Tree Entry := .node (some en115) tr179 tr243
theorem tk115 : AllT (Entry.ok CC LL) tr115 115 64 := AllT.mk (allSome k115) tk179 tk243 rfl rfl rfl
def tr211 : Tree Entry := .node none .leaf .leaf
theorem tk211 : AllT (Entry.ok CC LL) tr211 211 128 := AllT.mk allNone (AllT.leaf 339 256) (AllT.leaf 467 256) rfl rfl rfl
def tr147 : Tree Entry := .node (some en147) .leaf .leaf
theorem tk147 : AllT (Entry.ok CC LL) tr147 147 128 := AllT.mk (allSome k147) (AllT.leaf 275 256) (AllT.leaf 403 256) rfl rfl rfl
def tr83 : Tree Entry := .node (some en83) tr147 tr211
theorem tk83 : AllT (Entry.ok CC LL) tr83 83 64 := AllT.mk (allSome k83) tk147 tk211 rfl rfl rfl
def tr51 : Tree Entry := .node (some en51) tr83 tr115
theorem tk51 : AllT (Entry.ok CC LL) tr51 51 32 := AllT.mk (allSome k51) tk83 tk115 rfl rfl rfl
def tr227 : Tree Entry := .node none .leaf .leaf
theorem tk227 : AllT (Entry.ok CC LL) tr227 227 128 := AllT.mk allNone (AllT.leaf 355 256) (AllT.leaf 483 256) rfl rfl rfl
def tr163 : Tree Entry := .node none .leaf .leaf
theorem tk163 : AllT (Entry.ok CC LL) tr163 163 128 := AllT.mk allNone (AllT.leaf 291 256) (AllT.leaf 419 256) rfl rfl rfl
def tr99 : Tree Entry := .node (some en99) tr163 tr227
theorem tk99 : AllT (Entry.ok CC LL) tr99 99 64 := AllT.mk (allSome k99) tk163 tk227 rfl rfl rfl
def tr195 : Tree Entry := .node (some en195) .leaf .leaf
theorem tk195 : AllT (Entry.ok CC LL) tr195 195 128 := AllT.mk (allSome k195) (AllT.leaf 323 256) (AllT.leaf 451 256) rfl rfl rfl
def tr259 : Tree Entry := .node none .leaf .leaf
theorem tk259 : AllT (Entry.ok CC LL) tr259 259 256 := AllT.mk allNone (AllT.leaf 515 512) (AllT.leaf 771 512) rfl rfl rfl
def tr131 : Tree Entry := .node none tr259 .leaf
theorem tk131 : AllT (Entry.ok CC LL) tr131 131 128 := AllT.mk allNone tk259 (AllT.leaf 387 256) rfl rfl rfl
def tr67 : Tree Entry := .node (some en67) tr131 tr195
theorem tk67 : AllT (Entry.ok CC LL) tr67 67 64 := AllT.mk (allSome k67) tk131 tk195 rfl rfl rfl
def tr35 : Tree Entry := .node (some en35) tr67 tr99
theorem tk35 : AllT (Entry.ok CC LL) tr35 35 32 := AllT.mk (allSome k35) tk67 tk99 rfl rfl rfl
def tr19 : Tree Entry := .node (some en19) tr35 tr51
theorem tk19 : AllT (Entry.ok CC LL) tr19 19 16 := AllT.mk (allSome k19) tk35 tk51 rfl rfl rfl
def tr11 : Tree Entry := .node (some en11) tr19 tr27
theorem tk11 : AllT (Entry.ok CC LL) tr11 11 8 := AllT.mk (allSome k11) tk19 tk27 rfl rfl rfl
def tr247 : Tree Entry := .node none .leaf .leaf
theorem tk247 : AllT (Entry.ok CC LL) tr247 247 128 := AllT.mk allNone (AllT.leaf 375 256) (AllT.leaf 503 256) rfl rfl rfl
def tr183 : Tree Entry := .node none .leaf .leaf
theorem tk183 : AllT (Entry.ok CC LL) tr183 183 128 := AllT.mk allNone (AllT.leaf 311 256) (AllT.leaf 439 256) rfl rfl rfl
def tr119 : Tree Entry := .node (some en119) tr183 tr247
theorem tk119 : AllT (Entry.ok CC LL) tr119 119 64 := AllT.mk (allSome k119) tk183 tk247 rfl rfl rfl
def tr215 : Tree Entry := .node (some en215) .leaf .leaf
theorem tk215 : AllT (Entry.ok CC LL) tr215 215 128 := AllT.mk (allSome k215) (AllT.leaf 343 256) (AllT.leaf 471 256) rfl rfl rfl
def tr151 : Tree Entry := .node none .leaf .leaf
theorem tk151 : AllT (Entry.ok CC LL) tr151 151 128 := AllT.mk allNone (AllT.leaf 279 256) (AllT.leaf 407 256) rfl rfl rfl
def tr87 : Tree Entry := .node (some en87) tr151 tr215
theorem tk87 : AllT (Entry.ok CC LL) tr87 87 64 := AllT.mk (allSome k87) tk151 tk215 rfl rfl rfl
def tr55 : Tree Entry := .node (some en55) tr87 tr119
theorem tk55 : AllT (Entry.ok CC LL) tr55 55 32 := AllT.mk (allSome k55) tk87 tk119 rfl rfl rfl
def tr231 : Tree Entry := .node none .leaf .leaf
theorem tk231 : AllT (Entry.ok CC LL) tr231 231 128 := AllT.mk allNone (AllT.leaf 359 256) (AllT.leaf 487 256) rfl rfl rfl
def tr167 : Tree Entry := .node none .leaf .leaf
theorem tk167 : AllT (Entry.ok CC LL) tr167 167 128 := AllT.mk allNone (AllT.leaf 295 256) (AllT.leaf 423 256) rfl rfl rfl
def tr103 : Tree Entry := .node (some en103) tr167 tr231
theorem tk103 : AllT (Entry.ok CC LL) tr103 103 64 := AllT.mk (allSome k103) tk167 tk231 rfl rfl rfl
def tr199 : Tree Entry := .node none .leaf .leaf
theorem tk199 : AllT (Entry.ok CC LL) tr199 199 128 := AllT.mk allNone (AllT.leaf 327 256) (AllT.leaf 455 256) rfl rfl rfl
def tr263 : Tree Entry := .node (some en263) .leaf .leaf
theorem tk263 : AllT (Entry.ok CC LL) tr263 263 256 := AllT.mk (allSome k263) (AllT.leaf 519 512) (AllT.leaf 775 512) rfl rfl rfl
def tr135 : Tree Entry := .node (some en135) tr263 .leaf
theorem tk135 : AllT (Entry.ok CC LL) tr135 135 128 := AllT.mk (allSome k135) tk263 (AllT.leaf 391 256) rfl rfl rfl
def tr71 : Tree Entry := .node (some en71) tr135 tr199
theorem tk71 : AllT (Entry.ok CC LL) tr71 71 64 := AllT.mk (allSome k71) tk135 tk199 rfl rfl rfl
def tr39 : Tree Entry := .node (some en39) tr71 tr103
theorem tk39 : AllT (Entry.ok CC LL) tr39 39 32 := AllT.mk (allSome k39) tk71 tk103 rfl rfl rfl
def tr23 : Tree Entry := .node (some en23) tr39 tr55
theorem tk23 : AllT (Entry.ok CC LL) tr23 23 16 := AllT.mk (allSome k23) tk39 tk55 rfl rfl rfl
def tr239 : Tree Entry := .node none .leaf .leaf
theorem tk239 : AllT (Entry.ok CC LL) tr239 239 128 := AllT.mk allNone (AllT.leaf 367 256) (AllT.leaf 495 256) rfl rfl rfl
def tr175 : Tree Entry := .node (some en175) .leaf .leaf
theorem tk175 : AllT (Entry.ok CC LL) tr175 175 128 := AllT.mk (allSome k175) (AllT.leaf 303 256) (AllT.leaf 431 256) rfl rfl rfl
def tr111 : Tree Entry := .node (some en111) tr175 tr239
theorem tk111 : AllT (Entry.ok CC LL) tr111 111 64 := AllT.mk (allSome k111) tk175 tk239 rfl rfl rfl
def tr207 : Tree Entry := .node none .leaf .leaf
theorem tk207 : AllT (Entry.ok CC LL) tr207 207 128 := AllT.mk allNone (AllT.leaf 335 256) (AllT.leaf 463 256) rfl rfl rfl
def tr143 : Tree Entry := .node none .leaf .leaf
theorem tk143 : AllT (Entry.ok CC LL) tr143 143 128 := AllT.mk allNone (AllT.leaf 271 256) (AllT.leaf 399 256) rfl rfl rfl
def tr79 : Tree Entry := .node (some en79) tr143 tr207
theorem tk79 : AllT (Entry.ok CC LL) tr79 79 64 := AllT.mk (allSome k79) tk143 tk207 rfl rfl rfl
def tr47 : Tree Entry := .node (some en47) tr79 tr111
theorem tk47 : AllT (Entry.ok CC LL) tr47 47 32 := AllT.mk (allSome k47) tk79 tk111 rfl rfl rfl
def tr223 : Tree Entry := .node none .leaf .leaf
theorem tk223 : AllT (Entry.ok CC LL) tr223 223 128 := AllT.mk allNone (AllT.leaf 351 256) (AllT.leaf 479 256) rfl rfl rfl
def tr159 : Tree Entry := .node none .leaf .leaf
theorem tk159 : AllT (Entry.ok CC LL) tr159 159 128 := AllT.mk allNone (AllT.leaf 287 256) (AllT.leaf 415 256) rfl rfl rfl
def tr95 : Tree Entry := .node (some en95) tr159 tr223
theorem tk95 : AllT (Entry.ok CC LL) tr95 95 64 := AllT.mk (allSome k95) tk159 tk223 rfl rfl rfl
def tr191 : Tree Entry := .node none .leaf .leaf
theorem tk191 : AllT (Entry.ok CC LL) tr191 191 128 := AllT.mk allNone (AllT.leaf 319 256) (AllT.leaf 447 256) rfl rfl rfl
def tr255 : Tree Entry := .node none .leaf .leaf
theorem tk255 : AllT (Entry.ok CC LL) tr255 255 256 := AllT.mk allNone (AllT.leaf 511 512) (AllT.leaf 767 512) rfl rfl rfl
def tr127 : Tree Entry := .node (some en127) tr255 .leaf
theorem tk127 : AllT (Entry.ok CC LL) tr127 127 128 := AllT.mk (allSome k127) tk255 (AllT.leaf 383 256) rfl rfl rfl
def tr63 : Tree Entry := .node (some en63) tr127 tr191
theorem tk63 : AllT (Entry.ok CC LL) tr63 63 64 := AllT.mk (allSome k63) tk127 tk191 rfl rfl rfl
def tr31 : Tree Entry := .node (some en31) tr63 tr95
theorem tk31 : AllT (Entry.ok CC LL) tr31 31 32 := AllT.mk (allSome k31) tk63 tk95 rfl rfl rfl
def tr15 : Tree Entry := .node (some en15) tr31 tr47
theorem tk15 : AllT (Entry.ok CC LL) tr15 15 16 := AllT.mk (allSome k15) tk31 tk47 rfl rfl rfl
def tr7 : Tree Entry := .node (some en7) tr15 tr23
theorem tk7 : AllT (Entry.ok CC LL) tr7 7 8 := AllT.mk (allSome k7) tk15 tk23 rfl rfl rfl
def tr3 : Tree Entry := .node (some en3) tr7 tr11
theorem tk3 : AllT (Entry.ok CC LL) tr3 3 4 := AllT.mk (allSome k3) tk7 tk11 rfl rfl rfl
def tr1 : Tree Entry := .node none tr3 tr5
theorem tk1 : AllT (Entry.ok CC LL) tr1 1 2 := AllT.mk allNone tk3 tk5 rfl rfl rfl
def tr0 : Tree Entry := .node none tr1 tr2
theorem tk0 : AllT (Entry.ok CC LL) tr0 0 1 := AllT.mk allNone tk1 tk2 rfl rfl rfl
theorem exts_ok : ExtsAt PP exts := ⟨⟨(PP.funcs[59]?).getD default, by kernel_rfl, by kernel_rfl, by kernel_rfl, by kernel_rfl, by kernel_rfl⟩, ⟨(PP.funcs[162]?).getD default, by kernel_rfl, by kernel_rfl, by kernel_rfl, by kernel_rfl, by kernel_rfl⟩, trivial⟩
theorem cok : COk CC := cok_exts (l := exts) (by kernel_rfl) (fun _ => rfl) (by kernel_rfl) exts_ok
end
end Go.Proofs.YtidadbppnmnfmaaGreatDoor.pa
