/-
 The table of these texts.
-/
import Derived.Test.YtlcigkdflbfdgaaGreatDoorSgS0
import Derived.Test.YtlcigkdflbfdgaaGreatDoorSgS1
import Derived.Test.YtlcigkdflbfdgaaGreatDoorSgS2
import Derived.Test.YtlcigkdflbfdgaaGreatDoorSgS3
import Derived.KernelRfl
set_option linter.unusedVariables false
namespace Go.Proofs.YtlcigkdflbfdgaaGreatDoor.sg
open Go Go.Eng
noncomputable section
def LL : LoopI := Lw 1000000000000
def en4 : Entry := mkEntry LL [(.cell .slice), (.cell .string)] f4
theorem k4 : Entry.ok CC LL 4 en4 := okOf (sh := [(.cell .slice), (.cell .string)]) (tx := f4) e4
def en5 : Entry := mkEntry LL [(.cell .slice)] f5
theorem k5 : Entry.ok CC LL 5 en5 := okOf (sh := [(.cell .slice)]) (tx := f5) e5
def en8 : Entry := mkEntry LL [(.cell .string)] f8
theorem k8 : Entry.ok CC LL 8 en8 := okOf (sh := [(.cell .string)]) (tx := f8) e8
def en11 : Entry := mkEntry LL [] f11
theorem k11 : Entry.ok CC LL 11 en11 := okOf (sh := []) (tx := f11) e11
def en12 : Entry := mkEntry LL [(.cell .slice)] f12
theorem k12 : Entry.ok CC LL 12 en12 := okOf (sh := [(.cell .slice)]) (tx := f12) e12
def en13 : Entry := mkEntry LL [(.cell .slice)] f13
theorem k13 : Entry.ok CC LL 13 en13 := okOf (sh := [(.cell .slice)]) (tx := f13) e13
def en14 : Entry := mkEntry LL [(.cell .slice)] f14
theorem k14 : Entry.ok CC LL 14 en14 := okOf (sh := [(.cell .slice)]) (tx := f14) e14
def en15 : Entry := mkEntry LL [(.cell .string)] f15
theorem k15 : Entry.ok CC LL 15 en15 := okOf (sh := [(.cell .string)]) (tx := f15) e15
def en16 : Entry := mkEntry LL [(.cell .string)] f16
theorem k16 : Entry.ok CC LL 16 en16 := okOf (sh := [(.cell .string)]) (tx := f16) e16
def en17 : Entry := mkEntry LL [(.cell .slice), (.cell .slice)] f17
theorem k17 : Entry.ok CC LL 17 en17 := okOf (sh := [(.cell .slice), (.cell .slice)]) (tx := f17) e17
def en18 : Entry := mkEntry LL [(.cell .slice), (.cell .val)] f18
theorem k18 : Entry.ok CC LL 18 en18 := okOf (sh := [(.cell .slice), (.cell .val)]) (tx := f18) e18
def en19 : Entry := mkEntry LL [(.agg [(.int .i64), .string, .string, (.int .i64), (.int .i64), .slice])] f19
theorem k19 : Entry.ok CC LL 19 en19 := okOf (sh := [(.agg [(.int .i64), .string, .string, (.int .i64), (.int .i64), .slice])]) (tx := f19) e19
def en21 : Entry := mkEntry LL [(.cell .string), (.cell .val)] f21
theorem k21 : Entry.ok CC LL 21 en21 := okOf (sh := [(.cell .string), (.cell .val)]) (tx := f21) e21
def en22 : Entry := mkEntry LL [(.cell .string)] f22
theorem k22 : Entry.ok CC LL 22 en22 := okOf (sh := [(.cell .string)]) (tx := f22) e22
def en23 : Entry := mkEntry LL [(.cell .string)] f23
theorem k23 : Entry.ok CC LL 23 en23 := okOf (sh := [(.cell .string)]) (tx := f23) e23
def en25 : Entry := mkEntry LL [(.cell .string)] f25
theorem k25 : Entry.ok CC LL 25 en25 := okOf (sh := [(.cell .string)]) (tx := f25) e25
def en26 : Entry := mkEntry LL [(.cell .string)] f26
theorem k26 : Entry.ok CC LL 26 en26 := okOf (sh := [(.cell .string)]) (tx := f26) e26
def en27 : Entry := mkEntry LL [(.cell .slice), (.cell .val)] f27
theorem k27 : Entry.ok CC LL 27 en27 := okOf (sh := [(.cell .slice), (.cell .val)]) (tx := f27) e27
def en28 : Entry := mkEntry LL [(.agg [(.int .i64), (.int .i64), .bool, .slice, (.int .i64), (.int .i64), (.int .i64), (.int .i64), .slice])] f28
theorem k28 : Entry.ok CC LL 28 en28 := okOf (sh := [(.agg [(.int .i64), (.int .i64), .bool, .slice, (.int .i64), (.int .i64), (.int .i64), (.int .i64), .slice])]) (tx := f28) e28
def en29 : Entry := mkEntry LL [(.agg [(.int .i64), (.int .i64), .bool, .slice, (.int .i64), (.int .i64), (.int .i64), (.int .i64), .slice])] f29
theorem k29 : Entry.ok CC LL 29 en29 := okOf (sh := [(.agg [(.int .i64), (.int .i64), .bool, .slice, (.int .i64), (.int .i64), (.int .i64), (.int .i64), .slice])]) (tx := f29) e29
def en30 : Entry := mkEntry LL [(.cell .string), (.cell .val)] f30
theorem k30 : Entry.ok CC LL 30 en30 := okOf (sh := [(.cell .string), (.cell .val)]) (tx := f30) e30
def en31 : Entry := mkEntry LL [(.cell .string)] f31
theorem k31 : Entry.ok CC LL 31 en31 := okOf (sh := [(.cell .string)]) (tx := f31) e31
def en32 : Entry := mkEntry LL [(.cell .string)] f32
theorem k32 : Entry.ok CC LL 32 en32 := okOf (sh := [(.cell .string)]) (tx := f32) e32
def en33 : Entry := mkEntry LL [(.cell .slice), (.cell .slice)] f33
theorem k33 : Entry.ok CC LL 33 en33 := okOf (sh := [(.cell .slice), (.cell .slice)]) (tx := f33) e33
def en34 : Entry := mkEntry LL [(.cell .ptr), (.cell .string)] f34
theorem k34 : Entry.ok CC LL 34 en34 := okOf (sh := [(.cell .ptr), (.cell .string)]) (tx := f34) e34
def en35 : Entry := mkEntry LL [(.cell .ptr)] f35
theorem k35 : Entry.ok CC LL 35 en35 := okOf (sh := [(.cell .ptr)]) (tx := f35) e35
def en36 : Entry := mkEntry LL [(.cell .ptr)] f36
theorem k36 : Entry.ok CC LL 36 en36 := okOf (sh := [(.cell .ptr)]) (tx := f36) e36
def en37 : Entry := mkEntry LL [(.cell (.int .i64))] f37
theorem k37 : Entry.ok CC LL 37 en37 := okOf (sh := [(.cell (.int .i64))]) (tx := f37) e37
def en38 : Entry := mkEntry LL [(.cell (.int .i64))] f38
theorem k38 : Entry.ok CC LL 38 en38 := okOf (sh := [(.cell (.int .i64))]) (tx := f38) e38
def en39 : Entry := mkEntry LL [(.cell .bool), (.cell .string), (.cell .ptr)] f39
theorem k39 : Entry.ok CC LL 39 en39 := okOf (sh := [(.cell .bool), (.cell .string), (.cell .ptr)]) (tx := f39) e39
def en40 : Entry := mkEntry LL [(.cell (.int .i64))] f40
theorem k40 : Entry.ok CC LL 40 en40 := okOf (sh := [(.cell (.int .i64))]) (tx := f40) e40
def en42 : Entry := mkEntry LL [(.cell (.int .i64))] f42
theorem k42 : Entry.ok CC LL 42 en42 := okOf (sh := [(.cell (.int .i64))]) (tx := f42) e42
def en43 : Entry := mkEntry LL [(.cell .string)] f43
theorem k43 : Entry.ok CC LL 43 en43 := okOf (sh := [(.cell .string)]) (tx := f43) e43
def en44 : Entry := mkEntry LL [(.cell (.int .i64))] f44
theorem k44 : Entry.ok CC LL 44 en44 := okOf (sh := [(.cell (.int .i64))]) (tx := f44) e44
def en45 : Entry := mkEntry LL [(.cell .string), (.cell .string)] f45
theorem k45 : Entry.ok CC LL 45 en45 := okOf (sh := [(.cell .string), (.cell .string)]) (tx := f45) e45
def en46 : Entry := mkEntry LL [(.cell .ptr)] f46
theorem k46 : Entry.ok CC LL 46 en46 := okOf (sh := [(.cell .ptr)]) (tx := f46) e46
def en47 : Entry := mkEntry LL [(.cell .bool), (.cell .val), (.cell .ptr)] f47
theorem k47 : Entry.ok CC LL 47 en47 := okOf (sh := [(.cell .bool), (.cell .val), (.cell .ptr)]) (tx := f47) e47
def en48 : Entry := mkEntry LL [(.cell .ptr), (.cell .ptr)] f48
theorem k48 : Entry.ok CC LL 48 en48 := okOf (sh := [(.cell .ptr), (.cell .ptr)]) (tx := f48) e48
def en49 : Entry := mkEntry LL [(.cell .ptr)] f49
theorem k49 : Entry.ok CC LL 49 en49 := okOf (sh := [(.cell .ptr)]) (tx := f49) e49
def en50 : Entry := mkEntry LL [(.cell .ptr), (.cell .ptr)] f50
theorem k50 : Entry.ok CC LL 50 en50 := okOf (sh := [(.cell .ptr), (.cell .ptr)]) (tx := f50) e50
def en51 : Entry := mkEntry LL [(.cell .ptr), (.cell .ptr)] f51
theorem k51 : Entry.ok CC LL 51 en51 := okOf (sh := [(.cell .ptr), (.cell .ptr)]) (tx := f51) e51
def en52 : Entry := mkEntry LL [(.cell .ptr)] f52
theorem k52 : Entry.ok CC LL 52 en52 := okOf (sh := [(.cell .ptr)]) (tx := f52) e52
def en53 : Entry := mkEntry LL [(.cell .ptr), (.cell .ptr)] f53
theorem k53 : Entry.ok CC LL 53 en53 := okOf (sh := [(.cell .ptr), (.cell .ptr)]) (tx := f53) e53
def en54 : Entry := mkEntry LL [(.cell .ptr), (.cell .ptr)] f54
theorem k54 : Entry.ok CC LL 54 en54 := okOf (sh := [(.cell .ptr), (.cell .ptr)]) (tx := f54) e54
def en55 : Entry := mkEntry LL [(.cell .ptr)] f55
theorem k55 : Entry.ok CC LL 55 en55 := okOf (sh := [(.cell .ptr)]) (tx := f55) e55
def en56 : Entry := mkEntry LL [(.cell .ptr)] f56
theorem k56 : Entry.ok CC LL 56 en56 := okOf (sh := [(.cell .ptr)]) (tx := f56) e56
def en57 : Entry := mkEntry LL [(.cell .ptr)] f57
theorem k57 : Entry.ok CC LL 57 en57 := okOf (sh := [(.cell .ptr)]) (tx := f57) e57
def en58 : Entry := mkEntry LL [(.cell .string)] f58
theorem k58 : Entry.ok CC LL 58 en58 := okOf (sh := [(.cell .string)]) (tx := f58) e58
def en59 : Entry := mkEntry LL [(.cell .string), (.cell .string)] f59
theorem k59 : Entry.ok CC LL 59 en59 := okOf (sh := [(.cell .string), (.cell .string)]) (tx := f59) e59
def en60 : Entry := mkEntry LL [(.cell .string), (.cell (.int .u8))] f60
theorem k60 : Entry.ok CC LL 60 en60 := okOf (sh := [(.cell .string), (.cell (.int .u8))]) (tx := f60) e60
def en61 : Entry := mkEntry LL [(.cell .ptr), (.cell (.int .u8))] f61
theorem k61 : Entry.ok CC LL 61 en61 := okOf (sh := [(.cell .ptr), (.cell (.int .u8))]) (tx := f61) e61
def en62 : Entry := mkEntry LL [(.cell .string)] f62
theorem k62 : Entry.ok CC LL 62 en62 := okOf (sh := [(.cell .string)]) (tx := f62) e62
def en63 : Entry := mkEntry LL [(.cell .string)] f63
theorem k63 : Entry.ok CC LL 63 en63 := okOf (sh := [(.cell .string)]) (tx := f63) e63
def en64 : Entry := mkEntry LL [(.cell .ptr), (.cell (.int .i32))] f64
theorem k64 : Entry.ok CC LL 64 en64 := okOf (sh := [(.cell .ptr), (.cell (.int .i32))]) (tx := f64) e64
def en65 : Entry := mkEntry LL [(.cell .ptr)] f65
theorem k65 : Entry.ok CC LL 65 en65 := okOf (sh := [(.cell .ptr)]) (tx := f65) e65
def en66 : Entry := mkEntry LL [(.cell .ptr)] f66
theorem k66 : Entry.ok CC LL 66 en66 := okOf (sh := [(.cell .ptr)]) (tx := f66) e66
def en67 : Entry := mkEntry LL [(.cell .ptr)] f67
theorem k67 : Entry.ok CC LL 67 en67 := okOf (sh := [(.cell .ptr)]) (tx := f67) e67
def en68 : Entry := mkEntry LL [(.cell .ptr)] f68
theorem k68 : Entry.ok CC LL 68 en68 := okOf (sh := [(.cell .ptr)]) (tx := f68) e68
def en69 : Entry := mkEntry LL [(.cell .string), (.cell .string)] f69
theorem k69 : Entry.ok CC LL 69 en69 := okOf (sh := [(.cell .string), (.cell .string)]) (tx := f69) e69
def en70 : Entry := mkEntry LL [(.cell (.int .i64))] f70
theorem k70 : Entry.ok CC LL 70 en70 := okOf (sh := [(.cell (.int .i64))]) (tx := f70) e70
def en71 : Entry := mkEntry LL [(.cell .string)] f71
theorem k71 : Entry.ok CC LL 71 en71 := okOf (sh := [(.cell .string)]) (tx := f71) e71
def en72 : Entry := mkEntry LL [(.cell .string), (.cell .string)] f72
theorem k72 : Entry.ok CC LL 72 en72 := okOf (sh := [(.cell .string), (.cell .string)]) (tx := f72) e72
def en73 : Entry := mkEntry LL [(.cell .slice), (.cell .string)] f73
theorem k73 : Entry.ok CC LL 73 en73 := okOf (sh := [(.cell .slice), (.cell .string)]) (tx := f73) e73
def en74 : Entry := mkEntry LL [(.cell .string)] f74
theorem k74 : Entry.ok CC LL 74 en74 := okOf (sh := [(.cell .string)]) (tx := f74) e74
def en75 : Entry := mkEntry LL [(.cell .string)] f75
theorem k75 : Entry.ok CC LL 75 en75 := okOf (sh := [(.cell .string)]) (tx := f75) e75
def en76 : Entry := mkEntry LL [(.cell .string), (.cell .string)] f76
theorem k76 : Entry.ok CC LL 76 en76 := okOf (sh := [(.cell .string), (.cell .string)]) (tx := f76) e76
def en77 : Entry := mkEntry LL [(.cell .string), (.cell (.int .u8))] f77
theorem k77 : Entry.ok CC LL 77 en77 := okOf (sh := [(.cell .string), (.cell (.int .u8))]) (tx := f77) e77
def en78 : Entry := mkEntry LL [(.cell .string)] f78
theorem k78 : Entry.ok CC LL 78 en78 := okOf (sh := [(.cell .string)]) (tx := f78) e78
def en79 : Entry := mkEntry LL [(.cell .slice), (.cell (.int .i32))] f79
theorem k79 : Entry.ok CC LL 79 en79 := okOf (sh := [(.cell .slice), (.cell (.int .i32))]) (tx := f79) e79
def en81 : Entry := mkEntry LL [(.cell .string), (.cell .string), (.cell (.int .i64)), (.cell (.int .i64))] f81
theorem k81 : Entry.ok CC LL 81 en81 := okOf (sh := [(.cell .string), (.cell .string), (.cell (.int .i64)), (.cell (.int .i64))]) (tx := f81) e81
def en82 : Entry := mkEntry LL [(.cell (.int .i64)), (.cell (.int .i64))] f82
theorem k82 : Entry.ok CC LL 82 en82 := okOf (sh := [(.cell (.int .i64)), (.cell (.int .i64))]) (tx := f82) e82
def en83 : Entry := mkEntry LL [(.cell .string), (.cell .string)] f83
theorem k83 : Entry.ok CC LL 83 en83 := okOf (sh := [(.cell .string), (.cell .string)]) (tx := f83) e83
def en84 : Entry := mkEntry LL [(.cell .string)] f84
theorem k84 : Entry.ok CC LL 84 en84 := okOf (sh := [(.cell .string)]) (tx := f84) e84
def en85 : Entry := mkEntry LL [(.cell .string), (.cell .string), (.cell (.int .i64)), (.cell (.int .i64)), (.cell .val)] f85
theorem k85 : Entry.ok CC LL 85 en85 := okOf (sh := [(.cell .string), (.cell .string), (.cell (.int .i64)), (.cell (.int .i64)), (.cell .val)]) (tx := f85) e85
def en87 : Entry := mkEntry LL [(.cell .slice), (.cell (.int .i32))] f87
theorem k87 : Entry.ok CC LL 87 en87 := okOf (sh := [(.cell .slice), (.cell (.int .i32))]) (tx := f87) e87
def en88 : Entry := mkEntry LL [(.cell .string), (.cell (.int .i64))] f88
theorem k88 : Entry.ok CC LL 88 en88 := okOf (sh := [(.cell .string), (.cell (.int .i64))]) (tx := f88) e88
def en89 : Entry := mkEntry LL [(.cell .string), (.cell .string)] f89
theorem k89 : Entry.ok CC LL 89 en89 := okOf (sh := [(.cell .string), (.cell .string)]) (tx := f89) e89
def en90 : Entry := mkEntry LL [(.cell .string), (.cell .string)] f90
theorem k90 : Entry.ok CC LL 90 en90 := okOf (sh := [(.cell .string), (.cell .string)]) (tx := f90) e90
def en91 : Entry := mkEntry LL [(.cell (.int .i64))] f91
theorem k91 : Entry.ok CC LL 91 en91 := okOf (sh := [(.cell (.int .i64))]) (tx := f91) e91
def en92 : Entry := mkEntry LL [(.cell (.int .u64))] f92
theorem k92 : Entry.ok CC LL 92 en92 := okOf (sh := [(.cell (.int .u64))]) (tx := f92) e92
def en93 : Entry := mkEntry LL [(.cell .slice), (.cell (.int .u64))] f93
theorem k93 : Entry.ok CC LL 93 en93 := okOf (sh := [(.cell .slice), (.cell (.int .u64))]) (tx := f93) e93
def en94 : Entry := mkEntry LL [(.cell .slice), (.cell (.int .u64)), (.cell (.int .i64)), (.cell .bool), (.cell .bool)] f94
theorem k94 : Entry.ok CC LL 94 en94 := okOf (sh := [(.cell .slice), (.cell (.int .u64)), (.cell (.int .i64)), (.cell .bool), (.cell .bool)]) (tx := f94) e94
def en96 : Entry := mkEntry LL [(.cell (.int .i64))] f96
theorem k96 : Entry.ok CC LL 96 en96 := okOf (sh := [(.cell (.int .i64))]) (tx := f96) e96
def en105 : Entry := mkEntry LL [(.cell (.int .i64))] f105
theorem k105 : Entry.ok CC LL 105 en105 := okOf (sh := [(.cell (.int .i64))]) (tx := f105) e105
def en106 : Entry := mkEntry LL [(.cell (.int .u64))] f106
theorem k106 : Entry.ok CC LL 106 en106 := okOf (sh := [(.cell (.int .u64))]) (tx := f106) e106
def tr126 : Tree Entry := .node none .leaf .leaf
theorem tk126 : AllT (Entry.ok CC LL) tr126 126 64 := AllT.mk allNone (AllT.leaf 190 128) (AllT.leaf 254 128) rfl rfl rfl
def tr94 : Tree Entry := .node (some en94) .leaf .leaf
theorem tk94 : AllT (Entry.ok CC LL) tr94 94 64 := AllT.mk (allSome k94) (AllT.leaf 158 128) (AllT.leaf 222 128) rfl rfl rfl
def tr62 : Tree Entry := .node (some en62) tr94 tr126
theorem tk62 : AllT (Entry.ok CC LL) tr62 62 32 := AllT.mk (allSome k62) tk94 tk126 rfl rfl rfl
def tr110 : Tree Entry := .node none .leaf .leaf
theorem tk110 : AllT (Entry.ok CC LL) tr110 110 64 := AllT.mk allNone (AllT.leaf 174 128) (AllT.leaf 238 128) rfl rfl rfl
def tr142 : Tree Entry := .node none .leaf .leaf
theorem tk142 : AllT (Entry.ok CC LL) tr142 142 128 := AllT.mk allNone (AllT.leaf 270 256) (AllT.leaf 398 256) rfl rfl rfl
def tr78 : Tree Entry := .node (some en78) tr142 .leaf
theorem tk78 : AllT (Entry.ok CC LL) tr78 78 64 := AllT.mk (allSome k78) tk142 (AllT.leaf 206 128) rfl rfl rfl
def tr46 : Tree Entry := .node (some en46) tr78 tr110
theorem tk46 : AllT (Entry.ok CC LL) tr46 46 32 := AllT.mk (allSome k46) tk78 tk110 rfl rfl rfl
def tr30 : Tree Entry := .node (some en30) tr46 tr62
theorem tk30 : AllT (Entry.ok CC LL) tr30 30 16 := AllT.mk (allSome k30) tk46 tk62 rfl rfl rfl
def tr118 : Tree Entry := .node none .leaf .leaf
theorem tk118 : AllT (Entry.ok CC LL) tr118 118 64 := AllT.mk allNone (AllT.leaf 182 128) (AllT.leaf 246 128) rfl rfl rfl
def tr86 : Tree Entry := .node none .leaf .leaf
theorem tk86 : AllT (Entry.ok CC LL) tr86 86 64 := AllT.mk allNone (AllT.leaf 150 128) (AllT.leaf 214 128) rfl rfl rfl
def tr54 : Tree Entry := .node (some en54) tr86 tr118
theorem tk54 : AllT (Entry.ok CC LL) tr54 54 32 := AllT.mk (allSome k54) tk86 tk118 rfl rfl rfl
def tr102 : Tree Entry := .node none .leaf .leaf
theorem tk102 : AllT (Entry.ok CC LL) tr102 102 64 := AllT.mk allNone (AllT.leaf 166 128) (AllT.leaf 230 128) rfl rfl rfl
def tr134 : Tree Entry := .node none .leaf .leaf
theorem tk134 : AllT (Entry.ok CC LL) tr134 134 128 := AllT.mk allNone (AllT.leaf 262 256) (AllT.leaf 390 256) rfl rfl rfl
def tr70 : Tree Entry := .node (some en70) tr134 .leaf
theorem tk70 : AllT (Entry.ok CC LL) tr70 70 64 := AllT.mk (allSome k70) tk134 (AllT.leaf 198 128) rfl rfl rfl
def tr38 : Tree Entry := .node (some en38) tr70 tr102
theorem tk38 : AllT (Entry.ok CC LL) tr38 38 32 := AllT.mk (allSome k38) tk70 tk102 rfl rfl rfl
def tr22 : Tree Entry := .node (some en22) tr38 tr54
theorem tk22 : AllT (Entry.ok CC LL) tr22 22 16 := AllT.mk (allSome k22) tk38 tk54 rfl rfl rfl
def tr14 : Tree Entry := .node (some en14) tr22 tr30
theorem tk14 : AllT (Entry.ok CC LL) tr14 14 8 := AllT.mk (allSome k14) tk22 tk30 rfl rfl rfl
def tr122 : Tree Entry := .node none .leaf .leaf
theorem tk122 : AllT (Entry.ok CC LL) tr122 122 64 := AllT.mk allNone (AllT.leaf 186 128) (AllT.leaf 250 128) rfl rfl rfl
def tr90 : Tree Entry := .node (some en90) .leaf .leaf
theorem tk90 : AllT (Entry.ok CC LL) tr90 90 64 := AllT.mk (allSome k90) (AllT.leaf 154 128) (AllT.leaf 218 128) rfl rfl rfl
def tr58 : Tree Entry := .node (some en58) tr90 tr122
theorem tk58 : AllT (Entry.ok CC LL) tr58 58 32 := AllT.mk (allSome k58) tk90 tk122 rfl rfl rfl
def tr106 : Tree Entry := .node (some en106) .leaf .leaf
theorem tk106 : AllT (Entry.ok CC LL) tr106 106 64 := AllT.mk (allSome k106) (AllT.leaf 170 128) (AllT.leaf 234 128) rfl rfl rfl
def tr138 : Tree Entry := .node none .leaf .leaf
theorem tk138 : AllT (Entry.ok CC LL) tr138 138 128 := AllT.mk allNone (AllT.leaf 266 256) (AllT.leaf 394 256) rfl rfl rfl
def tr74 : Tree Entry := .node (some en74) tr138 .leaf
theorem tk74 : AllT (Entry.ok CC LL) tr74 74 64 := AllT.mk (allSome k74) tk138 (AllT.leaf 202 128) rfl rfl rfl
def tr42 : Tree Entry := .node (some en42) tr74 tr106
theorem tk42 : AllT (Entry.ok CC LL) tr42 42 32 := AllT.mk (allSome k42) tk74 tk106 rfl rfl rfl
def tr26 : Tree Entry := .node (some en26) tr42 tr58
theorem tk26 : AllT (Entry.ok CC LL) tr26 26 16 := AllT.mk (allSome k26) tk42 tk58 rfl rfl rfl
def tr114 : Tree Entry := .node none .leaf .leaf
theorem tk114 : AllT (Entry.ok CC LL) tr114 114 64 := AllT.mk allNone (AllT.leaf 178 128) (AllT.leaf 242 128) rfl rfl rfl
def tr146 : Tree Entry := .node none .leaf .leaf
theorem tk146 : AllT (Entry.ok CC LL) tr146 146 128 := AllT.mk allNone (AllT.leaf 274 256) (AllT.leaf 402 256) rfl rfl rfl
def tr82 : Tree Entry := .node (some en82) tr146 .leaf
theorem tk82 : AllT (Entry.ok CC LL) tr82 82 64 := AllT.mk (allSome k82) tk146 (AllT.leaf 210 128) rfl rfl rfl
def tr50 : Tree Entry := .node (some en50) tr82 tr114
theorem tk50 : AllT (Entry.ok CC LL) tr50 50 32 := AllT.mk (allSome k50) tk82 tk114 rfl rfl rfl
def tr98 : Tree Entry := .node none .leaf .leaf
theorem tk98 : AllT (Entry.ok CC LL) tr98 98 64 := AllT.mk allNone (AllT.leaf 162 128) (AllT.leaf 226 128) rfl rfl rfl
def tr130 : Tree Entry := .node none .leaf .leaf
theorem tk130 : AllT (Entry.ok CC LL) tr130 130 128 := AllT.mk allNone (AllT.leaf 258 256) (AllT.leaf 386 256) rfl rfl rfl
def tr66 : Tree Entry := .node (some en66) tr130 .leaf
theorem tk66 : AllT (Entry.ok CC LL) tr66 66 64 := AllT.mk (allSome k66) tk130 (AllT.leaf 194 128) rfl rfl rfl
def tr34 : Tree Entry := .node (some en34) tr66 tr98
theorem tk34 : AllT (Entry.ok CC LL) tr34 34 32 := AllT.mk (allSome k34) tk66 tk98 rfl rfl rfl
def tr18 : Tree Entry := .node (some en18) tr34 tr50
theorem tk18 : AllT (Entry.ok CC LL) tr18 18 16 := AllT.mk (allSome k18) tk34 tk50 rfl rfl rfl
def tr10 : Tree Entry := .node none tr18 tr26
theorem tk10 : AllT (Entry.ok CC LL) tr10 10 8 := AllT.mk allNone tk18 tk26 rfl rfl rfl
def tr6 : Tree Entry := .node none tr10 tr14
theorem tk6 : AllT (Entry.ok CC LL) tr6 6 4 := AllT.mk allNone tk10 tk14 rfl rfl rfl
def tr124 : Tree Entry := .node none .leaf .leaf
theorem tk124 : AllT (Entry.ok CC LL) tr124 124 64 := AllT.mk allNone (AllT.leaf 188 128) (AllT.leaf 252 128) rfl rfl rfl
def tr92 : Tree Entry := .node (some en92) .leaf .leaf
theorem tk92 : AllT (Entry.ok CC LL) tr92 92 64 := AllT.mk (allSome k92) (AllT.leaf 156 128) (AllT.leaf 220 128) rfl rfl rfl
def tr60 : Tree Entry := .node (some en60) tr92 tr124
theorem tk60 : AllT (Entry.ok CC LL) tr60 60 32 := AllT.mk (allSome k60) tk92 tk124 rfl rfl rfl
def tr108 : Tree Entry := .node none .leaf .leaf
theorem tk108 : AllT (Entry.ok CC LL) tr108 108 64 := AllT.mk allNone (AllT.leaf 172 128) (AllT.leaf 236 128) rfl rfl rfl
def tr140 : Tree Entry := .node none .leaf .leaf
theorem tk140 : AllT (Entry.ok CC LL) tr140 140 128 := AllT.mk allNone (AllT.leaf 268 256) (AllT.leaf 396 256) rfl rfl rfl
def tr76 : Tree Entry := .node (some en76) tr140 .leaf
theorem tk76 : AllT (Entry.ok CC LL) tr76 76 64 := AllT.mk (allSome k76) tk140 (AllT.leaf 204 128) rfl rfl rfl
def tr44 : Tree Entry := .node (some en44) tr76 tr108
theorem tk44 : AllT (Entry.ok CC LL) tr44 44 32 := AllT.mk (allSome k44) tk76 tk108 rfl rfl rfl
def tr28 : Tree Entry := .node (some en28) tr44 tr60
theorem tk28 : AllT (Entry.ok CC LL) tr28 28 16 := AllT.mk (allSome k28) tk44 tk60 rfl rfl rfl
def tr116 : Tree Entry := .node none .leaf .leaf
theorem tk116 : AllT (Entry.ok CC LL) tr116 116 64 := AllT.mk allNone (AllT.leaf 180 128) (AllT.leaf 244 128) rfl rfl rfl
def tr84 : Tree Entry := .node (some en84) .leaf .leaf
theorem tk84 : AllT (Entry.ok CC LL) tr84 84 64 := AllT.mk (allSome k84) (AllT.leaf 148 128) (AllT.leaf 212 128) rfl rfl rfl
def tr52 : Tree Entry := .node (some en52) tr84 tr116
theorem tk52 : AllT (Entry.ok CC LL) tr52 52 32 := AllT.mk (allSome k52) tk84 tk116 rfl rfl rfl
def tr100 : Tree Entry := .node none .leaf .leaf
theorem tk100 : AllT (Entry.ok CC LL) tr100 100 64 := AllT.mk allNone (AllT.leaf 164 128) (AllT.leaf 228 128) rfl rfl rfl
def tr132 : Tree Entry := .node none .leaf .leaf
theorem tk132 : AllT (Entry.ok CC LL) tr132 132 128 := AllT.mk allNone (AllT.leaf 260 256) (AllT.leaf 388 256) rfl rfl rfl
def tr68 : Tree Entry := .node (some en68) tr132 .leaf
theorem tk68 : AllT (Entry.ok CC LL) tr68 68 64 := AllT.mk (allSome k68) tk132 (AllT.leaf 196 128) rfl rfl rfl
def tr36 : Tree Entry := .node (some en36) tr68 tr100
theorem tk36 : AllT (Entry.ok CC LL) tr36 36 32 := AllT.mk (allSome k36) tk68 tk100 rfl rfl rfl
def tr20 : Tree Entry := .node none tr36 tr52
theorem tk20 : AllT (Entry.ok CC LL) tr20 20 16 := AllT.mk allNone tk36 tk52 rfl rfl rfl
def tr12 : Tree Entry := .node (some en12) tr20 tr28
theorem tk12 : AllT (Entry.ok CC LL) tr12 12 8 := AllT.mk (allSome k12) tk20 tk28 rfl rfl rfl
def tr120 : Tree Entry := .node none .leaf .leaf
theorem tk120 : AllT (Entry.ok CC LL) tr120 120 64 := AllT.mk allNone (AllT.leaf 184 128) (AllT.leaf 248 128) rfl rfl rfl
def tr88 : Tree Entry := .node (some en88) .leaf .leaf
theorem tk88 : AllT (Entry.ok CC LL) tr88 88 64 := AllT.mk (allSome k88) (AllT.leaf 152 128) (AllT.leaf 216 128) rfl rfl rfl
def tr56 : Tree Entry := .node (some en56) tr88 tr120
theorem tk56 : AllT (Entry.ok CC LL) tr56 56 32 := AllT.mk (allSome k56) tk88 tk120 rfl rfl rfl
def tr104 : Tree Entry := .node none .leaf .leaf
theorem tk104 : AllT (Entry.ok CC LL) tr104 104 64 := AllT.mk allNone (AllT.leaf 168 128) (AllT.leaf 232 128) rfl rfl rfl
def tr136 : Tree Entry := .node none .leaf .leaf
theorem tk136 : AllT (Entry.ok CC LL) tr136 136 128 := AllT.mk allNone (AllT.leaf 264 256) (AllT.leaf 392 256) rfl rfl rfl
def tr72 : Tree Entry := .node (some en72) tr136 .leaf
theorem tk72 : AllT (Entry.ok CC LL) tr72 72 64 := AllT.mk (allSome k72) tk136 (AllT.leaf 200 128) rfl rfl rfl
def tr40 : Tree Entry := .node (some en40) tr72 tr104
theorem tk40 : AllT (Entry.ok CC LL) tr40 40 32 := AllT.mk (allSome k40) tk72 tk104 rfl rfl rfl
def tr24 : Tree Entry := .node none tr40 tr56
theorem tk24 : AllT (Entry.ok CC LL) tr24 24 16 := AllT.mk allNone tk40 tk56 rfl rfl rfl
def tr112 : Tree Entry := .node none .leaf .leaf
theorem tk112 : AllT (Entry.ok CC LL) tr112 112 64 := AllT.mk allNone (AllT.leaf 176 128) (AllT.leaf 240 128) rfl rfl rfl
def tr144 : Tree Entry := .node none .leaf .leaf
theorem tk144 : AllT (Entry.ok CC LL) tr144 144 128 := AllT.mk allNone (AllT.leaf 272 256) (AllT.leaf 400 256) rfl rfl rfl
def tr80 : Tree Entry := .node none tr144 .leaf
theorem tk80 : AllT (Entry.ok CC LL) tr80 80 64 := AllT.mk allNone tk144 (AllT.leaf 208 128) rfl rfl rfl
def tr48 : Tree Entry := .node (some en48) tr80 tr112
theorem tk48 : AllT (Entry.ok CC LL) tr48 48 32 := AllT.mk (allSome k48) tk80 tk112 rfl rfl rfl
def tr96 : Tree Entry := .node (some en96) .leaf .leaf
theorem tk96 : AllT (Entry.ok CC LL) tr96 96 64 := AllT.mk (allSome k96) (AllT.leaf 160 128) (AllT.leaf 224 128) rfl rfl rfl
def tr128 : Tree Entry := .node none .leaf .leaf
theorem tk128 : AllT (Entry.ok CC LL) tr128 128 128 := AllT.mk allNone (AllT.leaf 256 256) (AllT.leaf 384 256) rfl rfl rfl
def tr64 : Tree Entry := .node (some en64) tr128 .leaf
theorem tk64 : AllT (Entry.ok CC LL) tr64 64 64 := AllT.mk (allSome k64) tk128 (AllT.leaf 192 128) rfl rfl rfl
def tr32 : Tree Entry := .node (some en32) tr64 tr96
theorem tk32 : AllT (Entry.ok CC LL) tr32 32 32 := AllT.mk (allSome k32) tk64 tk96 rfl rfl rfl
def tr16 : Tree Entry := .node (some en16) tr32 tr48
theorem tk16 : AllT (Entry.ok CC LL) tr16 16 16 := AllT.mk (allSome k16) tk32 tk48 rfl rfl rfl
def tr8 : Tree Entry := .node (some en8) tr16 tr24
theorem tk8 : AllT (Entry.ok CC LL) tr8 8 8 := AllT.mk (allSome k8) tk16 tk24 rfl rfl rfl
def tr4 : Tree Entry := .node (some en4) tr8 tr12
theorem tk4 : AllT (Entry.ok CC LL) tr4 4 4 := AllT.mk (allSome k4) tk8 tk12 rfl rfl rfl
def tr2 : Tree Entry := .node none tr4 tr6
theorem tk2 : AllT (Entry.ok CC LL) tr2 2 2 := AllT.mk allNone tk4 tk6 rfl rfl rfl
def tr125 : Tree Entry := .node none .leaf .leaf
theorem tk125 : AllT (Entry.ok CC LL) tr125 125 64 := AllT.mk allNone (AllT.leaf 189 128) (AllT.leaf 253 128) rfl rfl rfl
def tr93 : Tree Entry := .node (some en93) .leaf .leaf
theorem tk93 : AllT (Entry.ok CC LL) tr93 93 64 := AllT.mk (allSome k93) (AllT.leaf 157 128) (AllT.leaf 221 128) rfl rfl rfl
def tr61 : Tree Entry := .node (some en61) tr93 tr125
theorem tk61 : AllT (Entry.ok CC LL) tr61 61 32 := AllT.mk (allSome k61) tk93 tk125 rfl rfl rfl
def tr109 : Tree Entry := .node none .leaf .leaf
theorem tk109 : AllT (Entry.ok CC LL) tr109 109 64 := AllT.mk allNone (AllT.leaf 173 128) (AllT.leaf 237 128) rfl rfl rfl
def tr141 : Tree Entry := .node none .leaf .leaf
theorem tk141 : AllT (Entry.ok CC LL) tr141 141 128 := AllT.mk allNone (AllT.leaf 269 256) (AllT.leaf 397 256) rfl rfl rfl
def tr77 : Tree Entry := .node (some en77) tr141 .leaf
theorem tk77 : AllT (Entry.ok CC LL) tr77 77 64 := AllT.mk (allSome k77) tk141 (AllT.leaf 205 128) rfl rfl rfl
def tr45 : Tree Entry := .node (some en45) tr77 tr109
theorem tk45 : AllT (Entry.ok CC LL) tr45 45 32 := AllT.mk (allSome k45) tk77 tk109 rfl rfl rfl
def tr29 : Tree Entry := .node (some en29) tr45 tr61
theorem tk29 : AllT (Entry.ok CC LL) tr29 29 16 := AllT.mk (allSome k29) tk45 tk61 rfl rfl rfl
def tr117 : Tree Entry := .node none .leaf .leaf
theorem tk117 : AllT (Entry.ok CC LL) tr117 117 64 := AllT.mk allNone (AllT.leaf 181 128) (AllT.leaf 245 128) rfl rfl rfl
def tr85 : Tree Entry := .node (some en85) .leaf .leaf
theorem tk85 : AllT (Entry.ok CC LL) tr85 85 64 := AllT.mk (allSome k85) (AllT.leaf 149 128) (AllT.leaf 213 128) rfl rfl rfl
def tr53 : Tree Entry := .node (some en53) tr85 tr117
theorem tk53 : AllT (Entry.ok CC LL) tr53 53 32 := AllT.mk (allSome k53) tk85 tk117 rfl rfl rfl
def tr101 : Tree Entry := .node none .leaf .leaf
theorem tk101 : AllT (Entry.ok CC LL) tr101 101 64 := AllT.mk allNone (AllT.leaf 165 128) (AllT.leaf 229 128) rfl rfl rfl
def tr133 : Tree Entry := .node none .leaf .leaf
theorem tk133 : AllT (Entry.ok CC LL) tr133 133 128 := AllT.mk allNone (AllT.leaf 261 256) (AllT.leaf 389 256) rfl rfl rfl
def tr69 : Tree Entry := .node (some en69) tr133 .leaf
theorem tk69 : AllT (Entry.ok CC LL) tr69 69 64 := AllT.mk (allSome k69) tk133 (AllT.leaf 197 128) rfl rfl rfl
def tr37 : Tree Entry := .node (some en37) tr69 tr101
theorem tk37 : AllT (Entry.ok CC LL) tr37 37 32 := AllT.mk (allSome k37) tk69 tk101 rfl rfl rfl
def tr21 : Tree Entry := .node (some en21) tr37 tr53
theorem tk21 : AllT (Entry.ok CC LL) tr21 21 16 := AllT.mk (allSome k21) tk37 tk53 rfl rfl rfl
def tr13 : Tree Entry := .node (some en13) tr21 tr29
theorem tk13 : AllT (Entry.ok CC LL) tr13 13 8 := AllT.mk (allSome k13) tk21 tk29 rfl rfl rfl
def tr121 : Tree Entry := .node none .leaf .leaf
theorem tk121 : AllT (Entry.ok CC LL) tr121 121 64 := AllT.mk allNone (AllT.leaf 185 128) (AllT.leaf 249 128) rfl rfl rfl
def tr89 : Tree Entry := .node (some en89) .leaf .leaf
theorem tk89 : AllT (Entry.ok CC LL) tr89 89 64 := AllT.mk (allSome k89) (AllT.leaf 153 128) (AllT.leaf 217 128) rfl rfl rfl
def tr57 : Tree Entry := .node (some en57) tr89 tr121
theorem tk57 : AllT (Entry.ok CC LL) tr57 57 32 := AllT.mk (allSome k57) tk89 tk121 rfl rfl rfl
def tr105 : Tree Entry := .node (some en105) .leaf .leaf
theorem tk105 : AllT (Entry.ok CC LL) tr105 105 64 := AllT.mk (allSome k105) (AllT.leaf 169 128) (AllT.leaf 233 128) rfl rfl rfl
def tr137 : Tree Entry := .node none .leaf .leaf
theorem tk137 : AllT (Entry.ok CC LL) tr137 137 128 := AllT.mk allNone (AllT.leaf 265 256) (AllT.leaf 393 256) rfl rfl rfl
def tr73 : Tree Entry := .node (some en73) tr137 .leaf
theorem tk73 : AllT (Entry.ok CC LL) tr73 73 64 := AllT.mk (allSome k73) tk137 (AllT.leaf 201 128) rfl rfl rfl
def tr41 : Tree Entry := .node none tr73 tr105
theorem tk41 : AllT (Entry.ok CC LL) tr41 41 32 := AllT.mk allNone tk73 tk105 rfl rfl rfl
def tr25 : Tree Entry := .node (some en25) tr41 tr57
theorem tk25 : AllT (Entry.ok CC LL) tr25 25 16 := AllT.mk (allSome k25) tk41 tk57 rfl rfl rfl
def tr113 : Tree Entry := .node none .leaf .leaf
theorem tk113 : AllT (Entry.ok CC LL) tr113 113 64 := AllT.mk allNone (AllT.leaf 177 128) (AllT.leaf 241 128) rfl rfl rfl
def tr145 : Tree Entry := .node none .leaf .leaf
theorem tk145 : AllT (Entry.ok CC LL) tr145 145 128 := AllT.mk allNone (AllT.leaf 273 256) (AllT.leaf 401 256) rfl rfl rfl
def tr81 : Tree Entry := .node (some en81) tr145 .leaf
theorem tk81 : AllT (Entry.ok CC LL) tr81 81 64 := AllT.mk (allSome k81) tk145 (AllT.leaf 209 128) rfl rfl rfl
def tr49 : Tree Entry := .node (some en49) tr81 tr113
theorem tk49 : AllT (Entry.ok CC LL) tr49 49 32 := AllT.mk (allSome k49) tk81 tk113 rfl rfl rfl
def tr97 : Tree Entry := .node none .leaf .leaf
theorem tk97 : AllT (Entry.ok CC LL) tr97 97 64 := AllT.mk allNone (AllT.leaf 161 128) (AllT.leaf 225 128) rfl rfl rfl
def tr129 : Tree Entry := .node none .leaf .leaf
theorem tk129 : AllT (Entry.ok CC LL) tr129 129 128 := AllT.mk allNone (AllT.leaf 257 256) (AllT.leaf 385 256) rfl rfl rfl
def tr65 : Tree Entry := .node (some en65) tr129 .leaf
theorem tk65 : AllT (Entry.ok CC LL) tr65 65 64 := AllT.mk (allSome k65) tk129 (AllT.leaf 193 128) rfl rfl rfl
def tr33 : Tree Entry := .node (some en33) tr65 tr97
theorem tk33 : AllT (Entry.ok CC LL) tr33 33 32 := AllT.mk (allSome k33) tk65 tk97 rfl rfl rfl
def tr17 : Tree Entry := .node (some en17) tr33 tr49
theorem tk17 : AllT (Entry.ok CC LL) tr17 17 16 := AllT.mk (allSome k17) tk33 tk49 rfl rfl rfl
def tr9 : Tree Entry := .node none tr17 tr25
theorem tk9 : AllT (Entry.ok CC LL) tr9 9 8 := AllT.mk allNone tk17 tk25 rfl rfl rfl
def tr5 : Tree Entry := .node (some en5) tr9 tr13
theorem tk5 : AllT (Entry.ok CC LL) tr5 5 4 := AllT.mk (allSome k5) tk9 tk13 rfl rfl rfl
def tr123 : Tree Entry := .node none .leaf .leaf
theorem tk123 : AllT (Entry.ok CC LL) tr123 123 64 := AllT.mk allNone (AllT.leaf 187 128) (AllT.leaf 251 128) rfl rfl rfl
def tr91 : Tree Entry := .node (some en91) .leaf .leaf
theorem tk91 : AllT (Entry.ok CC LL) tr91 91 64 := AllT.mk (allSome k91) (AllT.leaf 155 128) (AllT.leaf 219 128) rfl rfl rfl
def tr59 : Tree Entry := .node (some en59) tr91 tr123
theorem tk59 : AllT (Entry.ok CC LL) tr59 59 32 := AllT.mk (allSome k59) tk91 tk123 rfl rfl rfl
def tr107 : Tree Entry := .node none .leaf .leaf
theorem tk107 : AllT (Entry.ok CC LL) tr107 107 64 := AllT.mk allNone (AllT.leaf 171 128) (AllT.leaf 235 128) rfl rfl rfl
def tr139 : Tree Entry := .node none .leaf .leaf
theorem tk139 : AllT (Entry.ok CC LL) tr139 139 128 := AllT.mk allNone (AllT.leaf 267 256) (AllT.leaf 395 256) rfl rfl rfl
def tr75 : Tree Entry := .node (some en75) tr139 .leaf
theorem tk75 : AllT (Entry.ok CC LL) tr75 75 64 := AllT.mk (allSome k75) tk139 (AllT.leaf 203 128) rfl rfl rfl
def tr43 : Tree Entry := .node (some en43) tr75 tr107
theorem tk43 : AllT (Entry.ok CC LL) tr43 43 32 := AllT.mk (allSome k43) tk75 tk107 rfl rfl rfl
def tr27 : Tree Entry := .node (some en27) tr43 tr59
theorem tk27 : AllT (Entry.ok CC LL) tr27 27 16 := AllT.mk (allSome k27) tk43 tk59 rfl rfl rfl
def tr115 : Tree Entry := .node none .leaf .leaf
theorem tk115 : AllT (Entry.ok CC LL) tr115 115 64 := AllT.mk allNone (AllT.leaf 179 128) (AllT.leaf 243 128) rfl rfl rfl
def tr147 : Tree Entry := .node none .leaf .leaf
theorem tk147 : AllT (Entry.ok CC LL) tr147 147 128 := AllT.mk allNone (AllT.leaf 275 256) (AllT.leaf 403 256) rfl rfl rfl
def tr83 : Tree Entry := .node (some en83) tr147 .leaf
theorem tk83 : AllT (Entry.ok CC LL) tr83 83 64 := AllT.mk (allSome k83) tk147 (AllT.leaf 211 128) rfl rfl rfl
def tr51 : Tree Entry := .node (some en51) tr83 tr115
theorem tk51 : AllT (Entry.ok CC LL) tr51 51 32 := AllT.mk (allSome k51) tk83 tk115 rfl rfl rfl
def tr99 : Tree Entry := .node none .leaf .leaf
theorem tk99 : AllT (Entry.ok CC LL) tr99 99 64 := AllT.mk allNone (AllT.leaf 163 128) (AllT.leaf 227 128) rfl rfl rfl
def tr131 : Tree Entry := .node none .leaf .leaf
theorem tk131 : AllT (Entry.ok CC LL) tr131 131 128 := AllT.mk allNone (AllT.leaf 259 256) (AllT.leaf 387 256) rfl rfl rfl
def tr67 : Tree Entry := .node (some en67) tr131 .leaf
theorem tk67 : AllT (Entry.ok CC LL) tr67 67 64 := AllT.mk (allSome k67) tk131 (AllT.leaf 195 128) rfl rfl rfl
def tr35 : Tree Entry := .node (some en35) tr67 tr99
theorem tk35 : AllT (Entry.ok CC LL) tr35 35 32 := AllT.mk (allSome k35) tk67 tk99 rfl rfl rfl
def tr19 : Tree Entry := .node (some en19) tr35 tr51
theorem tk19 : AllT (Entry.ok CC LL) tr19 19 16 := AllT.mk (allSome k19) tk35 tk51 rfl rfl rfl
def tr11 : Tree Entry := .node (some en11) tr19 tr27
theorem tk11 : AllT (Entry.ok CC LL) tr11 11 8 := AllT.mk (allSome k11) tk19 tk27 rfl rfl rfl
def tr119 : Tree Entry := .node none .leaf .leaf
theorem tk119 : AllT (Entry.ok CC LL) tr119 119 64 := AllT.mk allNone (AllT.leaf 183 128) (AllT.leaf 247 128) rfl rfl rfl
def tr87 : Tree Entry := .node (some en87) .leaf .leaf
theorem tk87 : AllT (Entry.ok CC LL) tr87 87 64 := AllT.mk (allSome k87) (AllT.leaf 151 128) (AllT.leaf 215 128) rfl rfl rfl
def tr55 : Tree Entry := .node (some en55) tr87 tr119
theorem tk55 : AllT (Entry.ok CC LL) tr55 55 32 := AllT.mk (allSome k55) tk87 tk119 rfl rfl rfl
def tr103 : Tree Entry := .node none .leaf .leaf
theorem tk103 : AllT (Entry.ok CC LL) tr103 103 64 := AllT.mk allNone (AllT.leaf 167 128) (AllT.leaf 231 128) rfl rfl rfl
def tr135 : Tree Entry := .node none .leaf .leaf
theorem tk135 : AllT (Entry.ok CC LL) tr135 135 128 := AllT.mk allNone (AllT.leaf 263 256) (AllT.leaf 391 256) rfl rfl rfl
def tr71 : Tree Entry := .node (some en71) tr135 .leaf
theorem tk71 : AllT (Entry.ok CC LL) tr71 71 64 := AllT.mk (allSome k71) tk135 (AllT.leaf 199 128) rfl rfl rfl
def tr39 : Tree Entry := .node (some en39) tr71 tr103
theorem tk39 : AllT (Entry.ok CC LL) tr39 39 32 := AllT.mk (allSome k39) tk71 tk103 rfl rfl rfl
def tr23 : Tree Entry := .node (some en23) tr39 tr55
theorem tk23 : AllT (Entry.ok CC LL) tr23 23 16 := AllT.mk (allSome k23) tk39 tk55 rfl rfl rfl
def tr111 : Tree Entry := .node none .leaf .leaf
theorem tk111 : AllT (Entry.ok CC LL) tr111 111 64 := AllT.mk allNone (AllT.leaf 175 128) (AllT.leaf 239 128) rfl rfl rfl
def tr143 : Tree Entry := .node none .leaf .leaf
theorem tk143 : AllT (Entry.ok CC LL) tr143 143 128 := AllT.mk allNone (AllT.leaf 271 256) (AllT.leaf 399 256) rfl rfl rfl
def tr79 : Tree Entry := .node (some en79) tr143 .leaf
theorem tk79 : AllT (Entry.ok CC LL) tr79 79 64 := AllT.mk (allSome k79) tk143 (AllT.leaf 207 128) rfl rfl rfl
def tr47 : Tree Entry := .node (some en47) tr79 tr111
theorem tk47 : AllT (Entry.ok CC LL) tr47 47 32 := AllT.mk (allSome k47) tk79 tk111 rfl rfl rfl
def tr95 : Tree Entry := .node none .leaf .leaf
theorem tk95 : AllT (Entry.ok CC LL) tr95 95 64 := AllT.mk allNone (AllT.leaf 159 128) (AllT.leaf 223 128) rfl rfl rfl
def tr127 : Tree Entry := .node none .leaf .leaf
theorem tk127 : AllT (Entry.ok CC LL) tr127 127 128 := AllT.mk allNone (AllT.leaf 255 256) (AllT.leaf 383 256) rfl rfl rfl
def tr63 : Tree Entry := .node (some en63) tr127 .leaf
theorem tk63 : AllT (Entry.ok CC LL) tr63 63 64 := AllT.mk (allSome k63) tk127 (AllT.leaf 191 128) rfl rfl rfl
def tr31 : Tree Entry := .node (some en31) tr63 tr95
theorem tk31 : AllT (Entry.ok CC LL) tr31 31 32 := AllT.mk (allSome k31) tk63 tk95 rfl rfl rfl
def tr15 : Tree Entry := .node (some en15) tr31 tr47
theorem tk15 : AllT (Entry.ok CC LL) tr15 15 16 := AllT.mk (allSome k15) tk31 tk47 rfl rfl rfl
def tr7 : Tree Entry := .node none tr15 tr23
theorem tk7 : AllT (Entry.ok CC LL) tr7 7 8 := AllT.mk allNone tk15 tk23 rfl rfl rfl
def tr3 : Tree Entry := .node none tr7 tr11
theorem tk3 : AllT (Entry.ok CC LL) tr3 3 4 := AllT.mk allNone tk7 tk11 rfl rfl rfl
def tr1 : Tree Entry := .node none tr3 tr5
theorem tk1 : AllT (Entry.ok CC LL) tr1 1 2 := AllT.mk allNone tk3 tk5 rfl rfl rfl
def tr0 : Tree Entry := .node none tr1 tr2
theorem tk0 : AllT (Entry.ok CC LL) tr0 0 1 := AllT.mk allNone tk1 tk2 rfl rfl rfl
theorem exts_ok : ExtsAt PP exts := ⟨⟨(PP.funcs[80]?).getD default, by kernel_rfl, by kernel_rfl, by kernel_rfl, by kernel_rfl, by kernel_rfl⟩, ⟨(PP.funcs[86]?).getD default, by kernel_rfl, by kernel_rfl, by kernel_rfl, by kernel_rfl, by kernel_rfl⟩, ⟨(PP.funcs[104]?).getD default, by kernel_rfl, by kernel_rfl, by kernel_rfl, by kernel_rfl, by kernel_rfl⟩, trivial⟩
theorem cok : COk CC := cok_exts (l := exts) (by kernel_rfl) (fun _ => rfl) (by kernel_rfl) exts_ok
end
end Go.Proofs.YtlcigkdflbfdgaaGreatDoor.sg
