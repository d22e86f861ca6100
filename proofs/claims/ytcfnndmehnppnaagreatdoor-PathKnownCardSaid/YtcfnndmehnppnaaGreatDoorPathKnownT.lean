/-
  The table of these texts.
-/
import Derived.Test.YtcfnndmehnppnaaGreatDoorPathKnownS0
import Derived.Test.YtcfnndmehnppnaaGreatDoorPathKnownS1
import Derived.Test.YtcfnndmehnppnaaGreatDoorPathKnownS2
import Derived.KernelRfl
set_option linter.unusedVariables false
namespace Go.Proofs.YtcfnndmehnppnaaGreatDoor.pathKnown
open Go Go.Eng
noncomputable section
def LL : LoopI := Lw 1000000
def en4 : Entry := mkEntry LL [] f4
theorem k4 : Entry.ok CC LL 4 en4 := okOf (sh := []) (tx := f4) e4
def en16 : Entry := mkEntry LL [(.cell .string)] f16
theorem k16 : Entry.ok CC LL 16 en16 := okOf (sh := [(.cell .string)]) (tx := f16) e16
def en17 : Entry := mkEntry LL [(.cell .slice)] f17
theorem k17 : Entry.ok CC LL 17 en17 := okOf (sh := [(.cell .slice)]) (tx := f17) e17
def en18 : Entry := mkEntry LL [(.cell .ptr), (.cell .string)] f18
theorem k18 : Entry.ok CC LL 18 en18 := okOf (sh := [(.cell .ptr), (.cell .string)]) (tx := f18) e18
def en19 : Entry := mkEntry LL [(.cell .ptr), (.cell .string)] f19
theorem k19 : Entry.ok CC LL 19 en19 := okOf (sh := [(.cell .ptr), (.cell .string)]) (tx := f19) e19
def en20 : Entry := mkEntry LL [(.cell .ptr), (.cell .slice)] f20
theorem k20 : Entry.ok CC LL 20 en20 := okOf (sh := [(.cell .ptr), (.cell .slice)]) (tx := f20) e20
def en22 : Entry := mkEntry LL [(.cell .string), (.cell .string)] f22
theorem k22 : Entry.ok CC LL 22 en22 := okOf (sh := [(.cell .string), (.cell .string)]) (tx := f22) e22
def en23 : Entry := mkEntry LL [] f23
theorem k23 : Entry.ok CC LL 23 en23 := okOf (sh := []) (tx := f23) e23
def en25 : Entry := mkEntry LL [(.cell .ptr), (.cell (.int .i64))] f25
theorem k25 : Entry.ok CC LL 25 en25 := okOf (sh := [(.cell .ptr), (.cell (.int .i64))]) (tx := f25) e25
def en26 : Entry := mkEntry LL [(.cell .ptr), (.cell (.int .i64)), (.cell .string)] f26
theorem k26 : Entry.ok CC LL 26 en26 := okOf (sh := [(.cell .ptr), (.cell (.int .i64)), (.cell .string)]) (tx := f26) e26
def en29 : Entry := mkEntry LL [(.cell .ptr), (.cell (.int .i64)), (.cell .slice), (.cell .bool)] f29
theorem k29 : Entry.ok CC LL 29 en29 := okOf (sh := [(.cell .ptr), (.cell (.int .i64)), (.cell .slice), (.cell .bool)]) (tx := f29) e29
def en31 : Entry := mkEntry LL [(.cell (.int .i64)), (.cell (.int .i64)), (.cell (.int .i64))] f31
theorem k31 : Entry.ok CC LL 31 en31 := okOf (sh := [(.cell (.int .i64)), (.cell (.int .i64)), (.cell (.int .i64))]) (tx := f31) e31
def en46 : Entry := mkEntry LL [(.cell .string), (.cell .string)] f46
theorem k46 : Entry.ok CC LL 46 en46 := okOf (sh := [(.cell .string), (.cell .string)]) (tx := f46) e46
def en47 : Entry := mkEntry LL [(.cell .string)] f47
theorem k47 : Entry.ok CC LL 47 en47 := okOf (sh := [(.cell .string)]) (tx := f47) e47
def en48 : Entry := mkEntry LL [(.cell .slice), (.cell .string)] f48
theorem k48 : Entry.ok CC LL 48 en48 := okOf (sh := [(.cell .slice), (.cell .string)]) (tx := f48) e48
def en49 : Entry := mkEntry LL [(.cell .string)] f49
theorem k49 : Entry.ok CC LL 49 en49 := okOf (sh := [(.cell .string)]) (tx := f49) e49
def en50 : Entry := mkEntry LL [(.cell .slice)] f50
theorem k50 : Entry.ok CC LL 50 en50 := okOf (sh := [(.cell .slice)]) (tx := f50) e50
def en51 : Entry := mkEntry LL [(.cell .ptr)] f51
theorem k51 : Entry.ok CC LL 51 en51 := okOf (sh := [(.cell .ptr)]) (tx := f51) e51
def en52 : Entry := mkEntry LL [(.cell .ptr), (.agg [(.int .i64), (.int .i64), (.int .i64), (.int .i64), (.int .u32), (.int .u32), (.int .u32), (.int .u32), (.int .u32), (.int .u32), (.int .u32)]), (.cell .slice), (.cell .bool)] f52
theorem k52 : Entry.ok CC LL 52 en52 := okOf (sh := [(.cell .ptr), (.agg [(.int .i64), (.int .i64), (.int .i64), (.int .i64), (.int .u32), (.int .u32), (.int .u32), (.int .u32), (.int .u32), (.int .u32), (.int .u32)]), (.cell .slice), (.cell .bool)]) (tx := f52) e52
def en53 : Entry := mkEntry LL [(.cell .ptr), (.agg [(.int .i64), (.int .i64), (.int .i64), (.int .i64), (.int .u32), (.int .u32), (.int .u32), (.int .u32), (.int .u32), (.int .u32), (.int .u32)]), (.cell .slice), (.cell .bool)] f53
theorem k53 : Entry.ok CC LL 53 en53 := okOf (sh := [(.cell .ptr), (.agg [(.int .i64), (.int .i64), (.int .i64), (.int .i64), (.int .u32), (.int .u32), (.int .u32), (.int .u32), (.int .u32), (.int .u32), (.int .u32)]), (.cell .slice), (.cell .bool)]) (tx := f53) e53
def en54 : Entry := mkEntry LL [(.cell .ptr), (.cell (.int .i64)), (.cell .slice), (.cell .bool)] f54
theorem k54 : Entry.ok CC LL 54 en54 := okOf (sh := [(.cell .ptr), (.cell (.int .i64)), (.cell .slice), (.cell .bool)]) (tx := f54) e54
def en55 : Entry := mkEntry LL [(.cell .slice), (.cell .slice)] f55
theorem k55 : Entry.ok CC LL 55 en55 := okOf (sh := [(.cell .slice), (.cell .slice)]) (tx := f55) e55
def en58 : Entry := mkEntry LL [(.cell .ptr), (.cell (.int .i64))] f58
theorem k58 : Entry.ok CC LL 58 en58 := okOf (sh := [(.cell .ptr), (.cell (.int .i64))]) (tx := f58) e58
def en59 : Entry := mkEntry LL [(.cell .ptr), (.cell (.int .i64)), (.cell .val)] f59
theorem k59 : Entry.ok CC LL 59 en59 := okOf (sh := [(.cell .ptr), (.cell (.int .i64)), (.cell .val)]) (tx := f59) e59
def en60 : Entry := mkEntry LL [(.cell .slice), (.cell .ptr)] f60
theorem k60 : Entry.ok CC LL 60 en60 := okOf (sh := [(.cell .slice), (.cell .ptr)]) (tx := f60) e60
def en61 : Entry := mkEntry LL [(.cell .slice), (.cell .string)] f61
theorem k61 : Entry.ok CC LL 61 en61 := okOf (sh := [(.cell .slice), (.cell .string)]) (tx := f61) e61
def en66 : Entry := mkEntry LL [(.cell .slice)] f66
theorem k66 : Entry.ok CC LL 66 en66 := okOf (sh := [(.cell .slice)]) (tx := f66) e66
def en69 : Entry := mkEntry LL [(.cell (.int .i64)), (.cell (.int .i64)), (.cell (.int .i64))] f69
theorem k69 : Entry.ok CC LL 69 en69 := okOf (sh := [(.cell (.int .i64)), (.cell (.int .i64)), (.cell (.int .i64))]) (tx := f69) e69
def en70 : Entry := mkEntry LL [(.cell .ptr), .raw] f70
theorem k70 : Entry.ok CC LL 70 en70 := okOf (sh := [(.cell .ptr), .raw]) (tx := f70) e70
def en96 : Entry := mkEntry LL [(.cell .string), (.cell .string)] f96
theorem k96 : Entry.ok CC LL 96 en96 := okOf (sh := [(.cell .string), (.cell .string)]) (tx := f96) e96
def en97 : Entry := mkEntry LL [(.cell .slice), (.cell .string)] f97
theorem k97 : Entry.ok CC LL 97 en97 := okOf (sh := [(.cell .slice), (.cell .string)]) (tx := f97) e97
def en98 : Entry := mkEntry LL [(.cell .string)] f98
theorem k98 : Entry.ok CC LL 98 en98 := okOf (sh := [(.cell .string)]) (tx := f98) e98
def en99 : Entry := mkEntry LL [(.cell .ptr), (.cell .string)] f99
theorem k99 : Entry.ok CC LL 99 en99 := okOf (sh := [(.cell .ptr), (.cell .string)]) (tx := f99) e99
def en101 : Entry := mkEntry LL [(.agg [(.int .i64), (.int .i64), (.int .i64), (.int .i64), (.int .u32), (.int .u32), (.int .u32), (.int .u32), (.int .u32), (.int .u32), (.int .u32)]), (.cell (.int .i64))] f101
theorem k101 : Entry.ok CC LL 101 en101 := okOf (sh := [(.agg [(.int .i64), (.int .i64), (.int .i64), (.int .i64), (.int .u32), (.int .u32), (.int .u32), (.int .u32), (.int .u32), (.int .u32), (.int .u32)]), (.cell (.int .i64))]) (tx := f101) e101
def en102 : Entry := mkEntry LL [(.agg [(.int .i64), (.int .i64), (.int .i64), (.int .i64), (.int .u32), (.int .u32), (.int .u32), (.int .u32), (.int .u32), (.int .u32), (.int .u32)])] f102
theorem k102 : Entry.ok CC LL 102 en102 := okOf (sh := [(.agg [(.int .i64), (.int .i64), (.int .i64), (.int .i64), (.int .u32), (.int .u32), (.int .u32), (.int .u32), (.int .u32), (.int .u32), (.int .u32)])]) (tx := f102) e102
def en103 : Entry := mkEntry LL [(.cell (.int .i64))] f103
theorem k103 : Entry.ok CC LL 103 en103 := okOf (sh := [(.cell (.int .i64))]) (tx := f103) e103
def en104 : Entry := mkEntry LL [(.cell .ptr), (.cell (.int .i64)), (.cell (.int .i64)), (.cell .slice), (.cell .bool)] f104
theorem k104 : Entry.ok CC LL 104 en104 := okOf (sh := [(.cell .ptr), (.cell (.int .i64)), (.cell (.int .i64)), (.cell .slice), (.cell .bool)]) (tx := f104) e104
def en105 : Entry := mkEntry LL [(.cell .ptr), (.agg [(.int .i64), (.int .i64), (.int .i64), (.int .i64), (.int .u32), (.int .u32), (.int .u32), (.int .u32), (.int .u32), (.int .u32), (.int .u32)]), (.cell .slice), (.cell .bool)] f105
theorem k105 : Entry.ok CC LL 105 en105 := okOf (sh := [(.cell .ptr), (.agg [(.int .i64), (.int .i64), (.int .i64), (.int .i64), (.int .u32), (.int .u32), (.int .u32), (.int .u32), (.int .u32), (.int .u32), (.int .u32)]), (.cell .slice), (.cell .bool)]) (tx := f105) e105
def en106 : Entry := mkEntry LL [(.agg [(.int .i64), (.int .i64), (.int .i64), (.int .i64), (.int .u32), (.int .u32), (.int .u32), (.int .u32), (.int .u32), (.int .u32), (.int .u32)])] f106
theorem k106 : Entry.ok CC LL 106 en106 := okOf (sh := [(.agg [(.int .i64), (.int .i64), (.int .i64), (.int .i64), (.int .u32), (.int .u32), (.int .u32), (.int .u32), (.int .u32), (.int .u32), (.int .u32)])]) (tx := f106) e106
def en107 : Entry := mkEntry LL [(.cell .ptr), (.cell (.int .i64)), (.cell (.int .i64)), (.cell .slice), (.cell .bool)] f107
theorem k107 : Entry.ok CC LL 107 en107 := okOf (sh := [(.cell .ptr), (.cell (.int .i64)), (.cell (.int .i64)), (.cell .slice), (.cell .bool)]) (tx := f107) e107
def en108 : Entry := mkEntry LL [(.cell .ptr), (.agg [(.int .i64), (.int .i64), (.int .i64), (.int .i64), (.int .u32), (.int .u32), (.int .u32), (.int .u32), (.int .u32), (.int .u32), (.int .u32)]), (.cell (.int .i64)), (.cell .slice), (.cell .bool)] f108
theorem k108 : Entry.ok CC LL 108 en108 := okOf (sh := [(.cell .ptr), (.agg [(.int .i64), (.int .i64), (.int .i64), (.int .i64), (.int .u32), (.int .u32), (.int .u32), (.int .u32), (.int .u32), (.int .u32), (.int .u32)]), (.cell (.int .i64)), (.cell .slice), (.cell .bool)]) (tx := f108) e108
def en109 : Entry := mkEntry LL [(.cell .slice)] f109
theorem k109 : Entry.ok CC LL 109 en109 := okOf (sh := [(.cell .slice)]) (tx := f109) e109
def en110 : Entry := mkEntry LL [(.cell .ptr), (.cell (.int .i64)), (.cell (.int .i64)), (.cell (.int .i64))] f110
theorem k110 : Entry.ok CC LL 110 en110 := okOf (sh := [(.cell .ptr), (.cell (.int .i64)), (.cell (.int .i64)), (.cell (.int .i64))]) (tx := f110) e110
def en112 : Entry := mkEntry LL [(.cell .ptr), (.cell (.int .i64))] f112
theorem k112 : Entry.ok CC LL 112 en112 := okOf (sh := [(.cell .ptr), (.cell (.int .i64))]) (tx := f112) e112
def en113 : Entry := mkEntry LL [(.cell .slice), (.cell .val)] f113
theorem k113 : Entry.ok CC LL 113 en113 := okOf (sh := [(.cell .slice), (.cell .val)]) (tx := f113) e113
def en114 : Entry := mkEntry LL [(.agg [(.int .i64), .string]), (.cell .ptr)] f114
theorem k114 : Entry.ok CC LL 114 en114 := okOf (sh := [(.agg [(.int .i64), .string]), (.cell .ptr)]) (tx := f114) e114
def en115 : Entry := mkEntry LL [(.cell .string), (.cell .string)] f115
theorem k115 : Entry.ok CC LL 115 en115 := okOf (sh := [(.cell .string), (.cell .string)]) (tx := f115) e115
def en116 : Entry := mkEntry LL [(.cell .slice)] f116
theorem k116 : Entry.ok CC LL 116 en116 := okOf (sh := [(.cell .slice)]) (tx := f116) e116
def en119 : Entry := mkEntry LL [(.cell (.int .i64))] f119
theorem k119 : Entry.ok CC LL 119 en119 := okOf (sh := [(.cell (.int .i64))]) (tx := f119) e119
def en121 : Entry := mkEntry LL [(.cell (.int .i64)), (.cell (.int .i64)), (.cell (.int .i64)), (.cell (.int .i64))] f121
theorem k121 : Entry.ok CC LL 121 en121 := okOf (sh := [(.cell (.int .i64)), (.cell (.int .i64)), (.cell (.int .i64)), (.cell (.int .i64))]) (tx := f121) e121
def en122 : Entry := mkEntry LL [(.cell .ptr), (.cell (.int .u64)), (.cell .slice), (.cell .slice)] f122
theorem k122 : Entry.ok CC LL 122 en122 := okOf (sh := [(.cell .ptr), (.cell (.int .u64)), (.cell .slice), (.cell .slice)]) (tx := f122) e122
def en123 : Entry := mkEntry LL [(.cell (.int .i64))] f123
theorem k123 : Entry.ok CC LL 123 en123 := okOf (sh := [(.cell (.int .i64))]) (tx := f123) e123
def en124 : Entry := mkEntry LL [(.cell .ptr), (.cell (.int .u64)), (.cell .slice), (.cell .slice)] f124
theorem k124 : Entry.ok CC LL 124 en124 := okOf (sh := [(.cell .ptr), (.cell (.int .u64)), (.cell .slice), (.cell .slice)]) (tx := f124) e124
def en125 : Entry := mkEntry LL [(.cell .ptr)] f125
theorem k125 : Entry.ok CC LL 125 en125 := okOf (sh := [(.cell .ptr)]) (tx := f125) e125
def en132 : Entry := mkEntry LL [(.cell .ptr), (.cell (.int .i64))] f132
theorem k132 : Entry.ok CC LL 132 en132 := okOf (sh := [(.cell .ptr), (.cell (.int .i64))]) (tx := f132) e132
def en133 : Entry := mkEntry LL [(.cell .ptr), (.cell .val), (.cell .bool)] f133
theorem k133 : Entry.ok CC LL 133 en133 := okOf (sh := [(.cell .ptr), (.cell .val), (.cell .bool)]) (tx := f133) e133
def en134 : Entry := mkEntry LL [(.cell .ptr), (.agg [(.int .i64), .bool, (.int .i64), (.int .i64)]), (.cell .slice)] f134
theorem k134 : Entry.ok CC LL 134 en134 := okOf (sh := [(.cell .ptr), (.agg [(.int .i64), .bool, (.int .i64), (.int .i64)]), (.cell .slice)]) (tx := f134) e134
def en135 : Entry := mkEntry LL [(.cell .ptr), (.cell .val)] f135
theorem k135 : Entry.ok CC LL 135 en135 := okOf (sh := [(.cell .ptr), (.cell .val)]) (tx := f135) e135
def en137 : Entry := mkEntry LL [(.cell .ptr)] f137
theorem k137 : Entry.ok CC LL 137 en137 := okOf (sh := [(.cell .ptr)]) (tx := f137) e137
def en138 : Entry := mkEntry LL [(.cell .ptr), (.cell (.int .i64))] f138
theorem k138 : Entry.ok CC LL 138 en138 := okOf (sh := [(.cell .ptr), (.cell (.int .i64))]) (tx := f138) e138
def en139 : Entry := mkEntry LL [(.cell .ptr)] f139
theorem k139 : Entry.ok CC LL 139 en139 := okOf (sh := [(.cell .ptr)]) (tx := f139) e139
def en141 : Entry := mkEntry LL [(.cell .ptr)] f141
theorem k141 : Entry.ok CC LL 141 en141 := okOf (sh := [(.cell .ptr)]) (tx := f141) e141
def en157 : Entry := mkEntry LL [(.cell .string)] f157
theorem k157 : Entry.ok CC LL 157 en157 := okOf (sh := [(.cell .string)]) (tx := f157) e157
def en159 : Entry := mkEntry LL [(.cell .slice), (.cell .val)] f159
theorem k159 : Entry.ok CC LL 159 en159 := okOf (sh := [(.cell .slice), (.cell .val)]) (tx := f159) e159
def en160 : Entry := mkEntry LL [(.cell (.int .u32))] f160
theorem k160 : Entry.ok CC LL 160 en160 := okOf (sh := [(.cell (.int .u32))]) (tx := f160) e160
def en161 : Entry := mkEntry LL [(.cell .ptr), (.cell (.int .i64)), (.cell .slice), (.cell .bool)] f161
theorem k161 : Entry.ok CC LL 161 en161 := okOf (sh := [(.cell .ptr), (.cell (.int .i64)), (.cell .slice), (.cell .bool)]) (tx := f161) e161
def en162 : Entry := mkEntry LL [(.agg [(.int .i64), (.int .i64), (.int .i64), (.int .i64), (.int .u32), (.int .u32), (.int .u32), (.int .u32), (.int .u32), (.int .u32), (.int .u32)]), (.cell .slice)] f162
theorem k162 : Entry.ok CC LL 162 en162 := okOf (sh := [(.agg [(.int .i64), (.int .i64), (.int .i64), (.int .i64), (.int .u32), (.int .u32), (.int .u32), (.int .u32), (.int .u32), (.int .u32), (.int .u32)]), (.cell .slice)]) (tx := f162) e162
def en163 : Entry := mkEntry LL [(.cell .ptr), (.agg [(.int .i64), (.int .i64), (.int .i64), (.int .i64), (.int .u32), (.int .u32), (.int .u32), (.int .u32), (.int .u32), (.int .u32), (.int .u32)]), (.cell .bool)] f163
theorem k163 : Entry.ok CC LL 163 en163 := okOf (sh := [(.cell .ptr), (.agg [(.int .i64), (.int .i64), (.int .i64), (.int .i64), (.int .u32), (.int .u32), (.int .u32), (.int .u32), (.int .u32), (.int .u32), (.int .u32)]), (.cell .bool)]) (tx := f163) e163
def en164 : Entry := mkEntry LL [(.cell (.int .i64))] f164
theorem k164 : Entry.ok CC LL 164 en164 := okOf (sh := [(.cell (.int .i64))]) (tx := f164) e164
def en165 : Entry := mkEntry LL [(.cell .ptr), (.cell (.int .i64)), (.cell .slice), (.cell .bool)] f165
theorem k165 : Entry.ok CC LL 165 en165 := okOf (sh := [(.cell .ptr), (.cell (.int .i64)), (.cell .slice), (.cell .bool)]) (tx := f165) e165
def en166 : Entry := mkEntry LL [(.cell .ptr), (.agg [(.int .i64), (.int .i64), (.int .i64), (.int .i64), (.int .u32), (.int .u32), (.int .u32), (.int .u32), (.int .u32), (.int .u32), (.int .u32)]), (.cell .bool)] f166
theorem k166 : Entry.ok CC LL 166 en166 := okOf (sh := [(.cell .ptr), (.agg [(.int .i64), (.int .i64), (.int .i64), (.int .i64), (.int .u32), (.int .u32), (.int .u32), (.int .u32), (.int .u32), (.int .u32), (.int .u32)]), (.cell .bool)]) (tx := f166) e166
def en167 : Entry := mkEntry LL [(.cell .slice)] f167
theorem k167 : Entry.ok CC LL 167 en167 := okOf (sh := [(.cell .slice)]) (tx := f167) e167
def en168 : Entry := mkEntry LL [(.cell .ptr), (.cell (.int .i64)), (.cell .val)] f168
theorem k168 : Entry.ok CC LL 168 en168 := okOf (sh := [(.cell .ptr), (.cell (.int .i64)), (.cell .val)]) (tx := f168) e168
def en169 : Entry := mkEntry LL [(.agg [(.int .i64), (.int .i64), (.int .i64), (.int .i64), (.int .u32), (.int .u32), (.int .u32), (.int .u32), (.int .u32), (.int .u32), (.int .u32)]), (.cell .slice), (.cell .ptr), (.cell .ptr), (.cell .ptr), (.cell .ptr)] f169
theorem k169 : Entry.ok CC LL 169 en169 := okOf (sh := [(.agg [(.int .i64), (.int .i64), (.int .i64), (.int .i64), (.int .u32), (.int .u32), (.int .u32), (.int .u32), (.int .u32), (.int .u32), (.int .u32)]), (.cell .slice), (.cell .ptr), (.cell .ptr), (.cell .ptr), (.cell .ptr)]) (tx := f169) e169
def en170 : Entry := mkEntry LL [(.cell (.int .i64)), (.cell (.int .i64))] f170
theorem k170 : Entry.ok CC LL 170 en170 := okOf (sh := [(.cell (.int .i64)), (.cell (.int .i64))]) (tx := f170) e170
def en171 : Entry := mkEntry LL [(.cell .ptr), (.cell (.int .u32))] f171
theorem k171 : Entry.ok CC LL 171 en171 := okOf (sh := [(.cell .ptr), (.cell (.int .u32))]) (tx := f171) e171
def en172 : Entry := mkEntry LL [(.cell .slice), (.cell (.int .i64))] f172
theorem k172 : Entry.ok CC LL 172 en172 := okOf (sh := [(.cell .slice), (.cell (.int .i64))]) (tx := f172) e172
def en173 : Entry := mkEntry LL [(.cell .slice), (.cell .slice)] f173
theorem k173 : Entry.ok CC LL 173 en173 := okOf (sh := [(.cell .slice), (.cell .slice)]) (tx := f173) e173
def en174 : Entry := mkEntry LL [(.cell .ptr), (.cell (.int .u32))] f174
theorem k174 : Entry.ok CC LL 174 en174 := okOf (sh := [(.cell .ptr), (.cell (.int .u32))]) (tx := f174) e174
def en175 : Entry := mkEntry LL [(.cell .slice)] f175
theorem k175 : Entry.ok CC LL 175 en175 := okOf (sh := [(.cell .slice)]) (tx := f175) e175
def en176 : Entry := mkEntry LL [(.cell .slice), (.cell .slice)] f176
theorem k176 : Entry.ok CC LL 176 en176 := okOf (sh := [(.cell .slice), (.cell .slice)]) (tx := f176) e176
def en177 : Entry := mkEntry LL [(.cell .string)] f177
theorem k177 : Entry.ok CC LL 177 en177 := okOf (sh := [(.cell .string)]) (tx := f177) e177
def en178 : Entry := mkEntry LL [(.cell .string), (.cell .string)] f178
theorem k178 : Entry.ok CC LL 178 en178 := okOf (sh := [(.cell .string), (.cell .string)]) (tx := f178) e178
def en181 : Entry := mkEntry LL [(.cell (.int .i64)), (.cell (.int .i64))] f181
theorem k181 : Entry.ok CC LL 181 en181 := okOf (sh := [(.cell (.int .i64)), (.cell (.int .i64))]) (tx := f181) e181
def en182 : Entry := mkEntry LL [(.cell (.int .i64)), (.cell (.int .i64))] f182
theorem k182 : Entry.ok CC LL 182 en182 := okOf (sh := [(.cell (.int .i64)), (.cell (.int .i64))]) (tx := f182) e182
def en183 : Entry := mkEntry LL [(.cell .ptr), (.agg [(.int .i64), (.int .i64), (.int .i64)]), (.cell (.int .i64))] f183
theorem k183 : Entry.ok CC LL 183 en183 := okOf (sh := [(.cell .ptr), (.agg [(.int .i64), (.int .i64), (.int .i64)]), (.cell (.int .i64))]) (tx := f183) e183
def en184 : Entry := mkEntry LL [(.cell .ptr), (.agg [(.int .i64), (.int .i64), (.int .i64)]), (.cell (.int .i64))] f184
theorem k184 : Entry.ok CC LL 184 en184 := okOf (sh := [(.cell .ptr), (.agg [(.int .i64), (.int .i64), (.int .i64)]), (.cell (.int .i64))]) (tx := f184) e184
def en185 : Entry := mkEntry LL [(.cell .ptr)] f185
theorem k185 : Entry.ok CC LL 185 en185 := okOf (sh := [(.cell .ptr)]) (tx := f185) e185
def en186 : Entry := mkEntry LL [(.cell .slice), (.cell (.int .i64)), (.cell (.int .i64))] f186
theorem k186 : Entry.ok CC LL 186 en186 := okOf (sh := [(.cell .slice), (.cell (.int .i64)), (.cell (.int .i64))]) (tx := f186) e186
def en187 : Entry := mkEntry LL [(.cell .slice)] f187
theorem k187 : Entry.ok CC LL 187 en187 := okOf (sh := [(.cell .slice)]) (tx := f187) e187
def en188 : Entry := mkEntry LL [(.cell .slice)] f188
theorem k188 : Entry.ok CC LL 188 en188 := okOf (sh := [(.cell .slice)]) (tx := f188) e188
def en189 : Entry := mkEntry LL [(.cell .slice), (.cell (.int .i64)), (.cell (.int .i64))] f189
theorem k189 : Entry.ok CC LL 189 en189 := okOf (sh := [(.cell .slice), (.cell (.int .i64)), (.cell (.int .i64))]) (tx := f189) e189
def en190 : Entry := mkEntry LL [(.cell .string)] f190
theorem k190 : Entry.ok CC LL 190 en190 := okOf (sh := [(.cell .string)]) (tx := f190) e190
def en196 : Entry := mkEntry LL [(.cell .ptr), (.agg [(.int .i64), .bool, (.int .i64), (.int .i64)]), (.cell .slice)] f196
theorem k196 : Entry.ok CC LL 196 en196 := okOf (sh := [(.cell .ptr), (.agg [(.int .i64), .bool, (.int .i64), (.int .i64)]), (.cell .slice)]) (tx := f196) e196
def en197 : Entry := mkEntry LL [(.agg [(.int .i64), .bool, (.int .i64), (.int .i64)])] f197
theorem k197 : Entry.ok CC LL 197 en197 := okOf (sh := [(.agg [(.int .i64), .bool, (.int .i64), (.int .i64)])]) (tx := f197) e197
def en198 : Entry := mkEntry LL [(.cell (.int .i64)), (.cell (.int .i64)), (.cell (.int .i64))] f198
theorem k198 : Entry.ok CC LL 198 en198 := okOf (sh := [(.cell (.int .i64)), (.cell (.int .i64)), (.cell (.int .i64))]) (tx := f198) e198
def en199 : Entry := mkEntry LL [(.cell .slice)] f199
theorem k199 : Entry.ok CC LL 199 en199 := okOf (sh := [(.cell .slice)]) (tx := f199) e199
def en200 : Entry := mkEntry LL [(.cell (.int .i64))] f200
theorem k200 : Entry.ok CC LL 200 en200 := okOf (sh := [(.cell (.int .i64))]) (tx := f200) e200
def en201 : Entry := mkEntry LL [(.cell .ptr)] f201
theorem k201 : Entry.ok CC LL 201 en201 := okOf (sh := [(.cell .ptr)]) (tx := f201) e201
def en202 : Entry := mkEntry LL [(.cell (.int .i64)), (.cell .slice)] f202
theorem k202 : Entry.ok CC LL 202 en202 := okOf (sh := [(.cell (.int .i64)), (.cell .slice)]) (tx := f202) e202
def en203 : Entry := mkEntry LL [(.cell .ptr), (.cell (.int .i64)), (.cell (.int .u64)), (.cell .slice)] f203
theorem k203 : Entry.ok CC LL 203 en203 := okOf (sh := [(.cell .ptr), (.cell (.int .i64)), (.cell (.int .u64)), (.cell .slice)]) (tx := f203) e203
def en204 : Entry := mkEntry LL [(.cell .ptr)] f204
theorem k204 : Entry.ok CC LL 204 en204 := okOf (sh := [(.cell .ptr)]) (tx := f204) e204
def en206 : Entry := mkEntry LL [(.cell (.int .i64)), (.cell .slice)] f206
theorem k206 : Entry.ok CC LL 206 en206 := okOf (sh := [(.cell (.int .i64)), (.cell .slice)]) (tx := f206) e206
def en207 : Entry := mkEntry LL [(.cell .ptr), (.cell (.int .i64)), (.cell (.int .u64)), (.cell .slice)] f207
theorem k207 : Entry.ok CC LL 207 en207 := okOf (sh := [(.cell .ptr), (.cell (.int .i64)), (.cell (.int .u64)), (.cell .slice)]) (tx := f207) e207
def en208 : Entry := mkEntry LL [(.cell .ptr)] f208
theorem k208 : Entry.ok CC LL 208 en208 := okOf (sh := [(.cell .ptr)]) (tx := f208) e208
def en209 : Entry := mkEntry LL [(.cell .slice)] f209
theorem k209 : Entry.ok CC LL 209 en209 := okOf (sh := [(.cell .slice)]) (tx := f209) e209
def en225 : Entry := mkEntry LL [(.cell .string)] f225
theorem k225 : Entry.ok CC LL 225 en225 := okOf (sh := [(.cell .string)]) (tx := f225) e225
def en227 : Entry := mkEntry LL [(.cell .slice), (.cell .val)] f227
theorem k227 : Entry.ok CC LL 227 en227 := okOf (sh := [(.cell .slice), (.cell .val)]) (tx := f227) e227
def en228 : Entry := mkEntry LL [(.cell .slice)] f228
theorem k228 : Entry.ok CC LL 228 en228 := okOf (sh := [(.cell .slice)]) (tx := f228) e228
def en229 : Entry := mkEntry LL [(.cell .slice)] f229
theorem k229 : Entry.ok CC LL 229 en229 := okOf (sh := [(.cell .slice)]) (tx := f229) e229
def en230 : Entry := mkEntry LL [(.agg [(.int .i64), (.int .i64), (.int .i64), (.int .i64), (.int .u32), (.int .u32), (.int .u32), (.int .u32), (.int .u32), (.int .u32), (.int .u32)])] f230
theorem k230 : Entry.ok CC LL 230 en230 := okOf (sh := [(.agg [(.int .i64), (.int .i64), (.int .i64), (.int .i64), (.int .u32), (.int .u32), (.int .u32), (.int .u32), (.int .u32), (.int .u32), (.int .u32)])]) (tx := f230) e230
def en231 : Entry := mkEntry LL [(.cell .string), (.cell .string)] f231
theorem k231 : Entry.ok CC LL 231 en231 := okOf (sh := [(.cell .string), (.cell .string)]) (tx := f231) e231
def en232 : Entry := mkEntry LL [(.cell .ptr), (.agg [(.int .i64), (.int .i64), (.int .i64), (.int .i64), (.int .u32), (.int .u32), (.int .u32), (.int .u32), (.int .u32), (.int .u32), (.int .u32)])] f232
theorem k232 : Entry.ok CC LL 232 en232 := okOf (sh := [(.cell .ptr), (.agg [(.int .i64), (.int .i64), (.int .i64), (.int .i64), (.int .u32), (.int .u32), (.int .u32), (.int .u32), (.int .u32), (.int .u32), (.int .u32)])]) (tx := f232) e232
def en233 : Entry := mkEntry LL [(.cell .val), (.cell .ptr), (.cell .ptr)] f233
theorem k233 : Entry.ok CC LL 233 en233 := okOf (sh := [(.cell .val), (.cell .ptr), (.cell .ptr)]) (tx := f233) e233
def en234 : Entry := mkEntry LL [(.cell .ptr), (.cell .ptr), (.cell .ptr)] f234
theorem k234 : Entry.ok CC LL 234 en234 := okOf (sh := [(.cell .ptr), (.cell .ptr), (.cell .ptr)]) (tx := f234) e234
def en235 : Entry := mkEntry LL [(.cell (.int .i64)), (.cell (.int .u32))] f235
theorem k235 : Entry.ok CC LL 235 en235 := okOf (sh := [(.cell (.int .i64)), (.cell (.int .u32))]) (tx := f235) e235
def en236 : Entry := mkEntry LL [(.cell .slice)] f236
theorem k236 : Entry.ok CC LL 236 en236 := okOf (sh := [(.cell .slice)]) (tx := f236) e236
def en237 : Entry := mkEntry LL [(.cell .ptr), (.cell (.int .i64))] f237
theorem k237 : Entry.ok CC LL 237 en237 := okOf (sh := [(.cell .ptr), (.cell (.int .i64))]) (tx := f237) e237
def en238 : Entry := mkEntry LL [(.cell (.int .i64))] f238
theorem k238 : Entry.ok CC LL 238 en238 := okOf (sh := [(.cell (.int .i64))]) (tx := f238) e238
def en239 : Entry := mkEntry LL [(.cell (.int .i64)), (.cell .ptr)] f239
theorem k239 : Entry.ok CC LL 239 en239 := okOf (sh := [(.cell (.int .i64)), (.cell .ptr)]) (tx := f239) e239
def en240 : Entry := mkEntry LL [(.agg [(.int .i64), (.int .i64), (.int .i64), (.int .i64), (.int .u32), (.int .u32), (.int .u32), (.int .u32), (.int .u32), (.int .u32), (.int .u32)])] f240
theorem k240 : Entry.ok CC LL 240 en240 := okOf (sh := [(.agg [(.int .i64), (.int .i64), (.int .i64), (.int .i64), (.int .u32), (.int .u32), (.int .u32), (.int .u32), (.int .u32), (.int .u32), (.int .u32)])]) (tx := f240) e240
def en241 : Entry := mkEntry LL [(.cell (.int .i32)), (.cell (.int .i32))] f241
theorem k241 : Entry.ok CC LL 241 en241 := okOf (sh := [(.cell (.int .i32)), (.cell (.int .i32))]) (tx := f241) e241
def en242 : Entry := mkEntry LL [(.cell .string), (.cell .string)] f242
theorem k242 : Entry.ok CC LL 242 en242 := okOf (sh := [(.cell .string), (.cell .string)]) (tx := f242) e242
def en244 : Entry := mkEntry LL [(.cell (.int .i64))] f244
theorem k244 : Entry.ok CC LL 244 en244 := okOf (sh := [(.cell (.int .i64))]) (tx := f244) e244
def en245 : Entry := mkEntry LL [(.cell .ptr)] f245
theorem k245 : Entry.ok CC LL 245 en245 := okOf (sh := [(.cell .ptr)]) (tx := f245) e245
def en246 : Entry := mkEntry LL [(.cell (.int .i64)), (.cell (.int .i64))] f246
theorem k246 : Entry.ok CC LL 246 en246 := okOf (sh := [(.cell (.int .i64)), (.cell (.int .i64))]) (tx := f246) e246
def en247 : Entry := mkEntry LL [(.cell .ptr)] f247
theorem k247 : Entry.ok CC LL 247 en247 := okOf (sh := [(.cell .ptr)]) (tx := f247) e247
def en248 : Entry := mkEntry LL [(.cell (.int .i64)), (.cell (.int .i64))] f248
theorem k248 : Entry.ok CC LL 248 en248 := okOf (sh := [(.cell (.int .i64)), (.cell (.int .i64))]) (tx := f248) e248
def en249 : Entry := mkEntry LL [(.cell .slice)] f249
theorem k249 : Entry.ok CC LL 249 en249 := okOf (sh := [(.cell .slice)]) (tx := f249) e249
def en250 : Entry := mkEntry LL [(.cell .slice)] f250
theorem k250 : Entry.ok CC LL 250 en250 := okOf (sh := [(.cell .slice)]) (tx := f250) e250
def en251 : Entry := mkEntry LL [(.cell .string)] f251
theorem k251 : Entry.ok CC LL 251 en251 := okOf (sh := [(.cell .string)]) (tx := f251) e251
def en255 : Entry := mkEntry LL [(.cell (.int .i64))] f255
theorem k255 : Entry.ok CC LL 255 en255 := okOf (sh := [(.cell (.int .i64))]) (tx := f255) e255
def en257 : Entry := mkEntry LL [(.cell .ptr), (.cell .ptr), (.cell .ptr), (.cell .ptr)] f257
theorem k257 : Entry.ok CC LL 257 en257 := okOf (sh := [(.cell .ptr), (.cell .ptr), (.cell .ptr), (.cell .ptr)]) (tx := f257) e257
def en258 : Entry := mkEntry LL [(.agg [(.int .i64), .bool, (.int .i64), (.int .i64)])] f258
theorem k258 : Entry.ok CC LL 258 en258 := okOf (sh := [(.agg [(.int .i64), .bool, (.int .i64), (.int .i64)])]) (tx := f258) e258
def en259 : Entry := mkEntry LL [(.cell (.int .i64)), (.cell (.int .i64)), (.cell (.int .i64))] f259
theorem k259 : Entry.ok CC LL 259 en259 := okOf (sh := [(.cell (.int .i64)), (.cell (.int .i64)), (.cell (.int .i64))]) (tx := f259) e259
def en260 : Entry := mkEntry LL [(.cell (.int .i64))] f260
theorem k260 : Entry.ok CC LL 260 en260 := okOf (sh := [(.cell (.int .i64))]) (tx := f260) e260
def en261 : Entry := mkEntry LL [(.cell (.int .i64))] f261
theorem k261 : Entry.ok CC LL 261 en261 := okOf (sh := [(.cell (.int .i64))]) (tx := f261) e261
def en262 : Entry := mkEntry LL [(.cell .ptr), (.cell (.int .i64)), (.cell (.int .i64)), (.cell (.int .u64)), (.cell .bool)] f262
theorem k262 : Entry.ok CC LL 262 en262 := okOf (sh := [(.cell .ptr), (.cell (.int .i64)), (.cell (.int .i64)), (.cell (.int .u64)), (.cell .bool)]) (tx := f262) e262
def en263 : Entry := mkEntry LL [(.cell .ptr)] f263
theorem k263 : Entry.ok CC LL 263 en263 := okOf (sh := [(.cell .ptr)]) (tx := f263) e263
def en264 : Entry := mkEntry LL [(.cell (.int .i64)), (.cell (.int .i64)), (.cell .slice)] f264
theorem k264 : Entry.ok CC LL 264 en264 := okOf (sh := [(.cell (.int .i64)), (.cell (.int .i64)), (.cell .slice)]) (tx := f264) e264
def en265 : Entry := mkEntry LL [(.cell .slice)] f265
theorem k265 : Entry.ok CC LL 265 en265 := okOf (sh := [(.cell .slice)]) (tx := f265) e265
def en266 : Entry := mkEntry LL [(.cell .ptr), (.cell (.int .i64))] f266
theorem k266 : Entry.ok CC LL 266 en266 := okOf (sh := [(.cell .ptr), (.cell (.int .i64))]) (tx := f266) e266
def en267 : Entry := mkEntry LL [(.cell .ptr), (.cell (.int .i64)), (.cell (.int .i64)), (.cell (.int .u64)), (.cell .slice)] f267
theorem k267 : Entry.ok CC LL 267 en267 := okOf (sh := [(.cell .ptr), (.cell (.int .i64)), (.cell (.int .i64)), (.cell (.int .u64)), (.cell .slice)]) (tx := f267) e267
def en268 : Entry := mkEntry LL [(.agg [(.int .i64), .bool, (.int .i64), (.int .i64)])] f268
theorem k268 : Entry.ok CC LL 268 en268 := okOf (sh := [(.agg [(.int .i64), .bool, (.int .i64), (.int .i64)])]) (tx := f268) e268
def en269 : Entry := mkEntry LL [(.cell .ptr), (.cell (.int .i64)), (.cell (.int .i64))] f269
theorem k269 : Entry.ok CC LL 269 en269 := okOf (sh := [(.cell .ptr), (.cell (.int .i64)), (.cell (.int .i64))]) (tx := f269) e269
def en270 : Entry := mkEntry LL [(.cell .ptr)] f270
theorem k270 : Entry.ok CC LL 270 en270 := okOf (sh := [(.cell .ptr)]) (tx := f270) e270
def en271 : Entry := mkEntry LL [(.cell (.int .i64)), (.cell (.int .i64)), (.cell .slice)] f271
theorem k271 : Entry.ok CC LL 271 en271 := okOf (sh := [(.cell (.int .i64)), (.cell (.int .i64)), (.cell .slice)]) (tx := f271) e271
def en272 : Entry := mkEntry LL [(.cell .ptr), (.cell (.int .i64))] f272
theorem k272 : Entry.ok CC LL 272 en272 := okOf (sh := [(.cell .ptr), (.cell (.int .i64))]) (tx := f272) e272
def en273 : Entry := mkEntry LL [(.cell .ptr), (.cell (.int .i64)), (.cell (.int .i64)), (.cell (.int .u64)), (.cell .slice)] f273
theorem k273 : Entry.ok CC LL 273 en273 := okOf (sh := [(.cell .ptr), (.cell (.int .i64)), (.cell (.int .i64)), (.cell (.int .u64)), (.cell .slice)]) (tx := f273) e273
def en295 : Entry := mkEntry LL [(.cell .slice), (.cell (.int .i64)), (.cell (.int .i64)), (.cell (.int .u64))] f295
theorem k295 : Entry.ok CC LL 295 en295 := okOf (sh := [(.cell .slice), (.cell (.int .i64)), (.cell (.int .i64)), (.cell (.int .u64))]) (tx := f295) e295
def en296 : Entry := mkEntry LL [(.cell .string)] f296
theorem k296 : Entry.ok CC LL 296 en296 := okOf (sh := [(.cell .string)]) (tx := f296) e296
def en298 : Entry := mkEntry LL [(.agg [(.int .i64), (.int .i64), (.int .i64), (.int .i64), (.int .u32), (.int .u32), (.int .u32), (.int .u32), (.int .u32), (.int .u32), (.int .u32)]), (.cell .slice)] f298
theorem k298 : Entry.ok CC LL 298 en298 := okOf (sh := [(.agg [(.int .i64), (.int .i64), (.int .i64), (.int .i64), (.int .u32), (.int .u32), (.int .u32), (.int .u32), (.int .u32), (.int .u32), (.int .u32)]), (.cell .slice)]) (tx := f298) e298
def en299 : Entry := mkEntry LL [(.cell .ptr), (.cell (.int .i64)), (.cell (.int .u64))] f299
theorem k299 : Entry.ok CC LL 299 en299 := okOf (sh := [(.cell .ptr), (.cell (.int .i64)), (.cell (.int .u64))]) (tx := f299) e299
def en300 : Entry := mkEntry LL [(.agg [(.int .i64), (.int .i64), (.int .i64), (.int .i64), (.int .u32), (.int .u32), (.int .u32), (.int .u32), (.int .u32), (.int .u32), (.int .u32)])] f300
theorem k300 : Entry.ok CC LL 300 en300 := okOf (sh := [(.agg [(.int .i64), (.int .i64), (.int .i64), (.int .i64), (.int .u32), (.int .u32), (.int .u32), (.int .u32), (.int .u32), (.int .u32), (.int .u32)])]) (tx := f300) e300
def en301 : Entry := mkEntry LL [(.cell (.int .i32))] f301
theorem k301 : Entry.ok CC LL 301 en301 := okOf (sh := [(.cell (.int .i32))]) (tx := f301) e301
def en304 : Entry := mkEntry LL [(.cell .slice), (.cell (.int .i64)), (.cell (.int .i64)), (.cell (.int .i64))] f304
theorem k304 : Entry.ok CC LL 304 en304 := okOf (sh := [(.cell .slice), (.cell (.int .i64)), (.cell (.int .i64)), (.cell (.int .i64))]) (tx := f304) e304
def en305 : Entry := mkEntry LL [(.cell (.int .u64))] f305
theorem k305 : Entry.ok CC LL 305 en305 := okOf (sh := [(.cell (.int .u64))]) (tx := f305) e305
def en306 : Entry := mkEntry LL [(.cell .string)] f306
theorem k306 : Entry.ok CC LL 306 en306 := okOf (sh := [(.cell .string)]) (tx := f306) e306
def en311 : Entry := mkEntry LL [(.cell .ptr)] f311
theorem k311 : Entry.ok CC LL 311 en311 := okOf (sh := [(.cell .ptr)]) (tx := f311) e311
def en312 : Entry := mkEntry LL [(.cell .slice)] f312
theorem k312 : Entry.ok CC LL 312 en312 := okOf (sh := [(.cell .slice)]) (tx := f312) e312
def en313 : Entry := mkEntry LL [(.cell .slice), (.cell .slice)] f313
theorem k313 : Entry.ok CC LL 313 en313 := okOf (sh := [(.cell .slice), (.cell .slice)]) (tx := f313) e313
def en314 : Entry := mkEntry LL [(.cell (.int .i64)), (.cell (.int .i64))] f314
theorem k314 : Entry.ok CC LL 314 en314 := okOf (sh := [(.cell (.int .i64)), (.cell (.int .i64))]) (tx := f314) e314
def en316 : Entry := mkEntry LL [(.cell .ptr), (.cell (.int .i64)), (.cell (.int .i64)), (.cell .slice)] f316
theorem k316 : Entry.ok CC LL 316 en316 := okOf (sh := [(.cell .ptr), (.cell (.int .i64)), (.cell (.int .i64)), (.cell .slice)]) (tx := f316) e316
def en317 : Entry := mkEntry LL [(.cell .slice)] f317
theorem k317 : Entry.ok CC LL 317 en317 := okOf (sh := [(.cell .slice)]) (tx := f317) e317
def en318 : Entry := mkEntry LL [(.cell (.int .i64)), (.cell (.int .i64))] f318
theorem k318 : Entry.ok CC LL 318 en318 := okOf (sh := [(.cell (.int .i64)), (.cell (.int .i64))]) (tx := f318) e318
def en319 : Entry := mkEntry LL [(.cell (.int .u8)), (.cell (.int .u8))] f319
theorem k319 : Entry.ok CC LL 319 en319 := okOf (sh := [(.cell (.int .u8)), (.cell (.int .u8))]) (tx := f319) e319
def en320 : Entry := mkEntry LL [(.cell (.int .u64)), (.cell .slice)] f320
theorem k320 : Entry.ok CC LL 320 en320 := okOf (sh := [(.cell (.int .u64)), (.cell .slice)]) (tx := f320) e320
def en321 : Entry := mkEntry LL [(.cell .ptr), (.cell (.int .i64)), (.cell (.int .i64)), (.cell .slice)] f321
theorem k321 : Entry.ok CC LL 321 en321 := okOf (sh := [(.cell .ptr), (.cell (.int .i64)), (.cell (.int .i64)), (.cell .slice)]) (tx := f321) e321
def en327 : Entry := mkEntry LL [(.cell (.int .i64))] f327
theorem k327 : Entry.ok CC LL 327 en327 := okOf (sh := [(.cell (.int .i64))]) (tx := f327) e327
def en328 : Entry := mkEntry LL [(.cell .ptr), (.cell (.int .i64)), (.cell .val)] f328
theorem k328 : Entry.ok CC LL 328 en328 := okOf (sh := [(.cell .ptr), (.cell (.int .i64)), (.cell .val)]) (tx := f328) e328
def en329 : Entry := mkEntry LL [(.cell (.int .i64)), (.cell .slice), (.cell .ptr), (.cell .ptr), (.cell .ptr), (.cell .ptr)] f329
theorem k329 : Entry.ok CC LL 329 en329 := okOf (sh := [(.cell (.int .i64)), (.cell .slice), (.cell .ptr), (.cell .ptr), (.cell .ptr), (.cell .ptr)]) (tx := f329) e329
def en330 : Entry := mkEntry LL [(.cell .slice)] f330
theorem k330 : Entry.ok CC LL 330 en330 := okOf (sh := [(.cell .slice)]) (tx := f330) e330
def en331 : Entry := mkEntry LL [(.cell (.int .i64)), (.cell (.int .i64)), (.cell .slice), (.cell .slice)] f331
theorem k331 : Entry.ok CC LL 331 en331 := okOf (sh := [(.cell (.int .i64)), (.cell (.int .i64)), (.cell .slice), (.cell .slice)]) (tx := f331) e331
def en332 : Entry := mkEntry LL [(.cell .slice), (.cell (.int .i64)), (.cell (.int .i64))] f332
theorem k332 : Entry.ok CC LL 332 en332 := okOf (sh := [(.cell .slice), (.cell (.int .i64)), (.cell (.int .i64))]) (tx := f332) e332
def en333 : Entry := mkEntry LL [(.cell .slice), (.cell (.int .i64)), (.cell (.int .i64))] f333
theorem k333 : Entry.ok CC LL 333 en333 := okOf (sh := [(.cell .slice), (.cell (.int .i64)), (.cell (.int .i64))]) (tx := f333) e333
def en334 : Entry := mkEntry LL [(.cell .slice), (.cell (.int .i64)), (.cell (.int .i64))] f334
theorem k334 : Entry.ok CC LL 334 en334 := okOf (sh := [(.cell .slice), (.cell (.int .i64)), (.cell (.int .i64))]) (tx := f334) e334
def en335 : Entry := mkEntry LL [(.cell .slice), (.cell (.int .i64)), (.cell (.int .i64))] f335
theorem k335 : Entry.ok CC LL 335 en335 := okOf (sh := [(.cell .slice), (.cell (.int .i64)), (.cell (.int .i64))]) (tx := f335) e335
def en336 : Entry := mkEntry LL [(.cell .slice), (.cell (.int .i64)), (.cell (.int .i64))] f336
theorem k336 : Entry.ok CC LL 336 en336 := okOf (sh := [(.cell .slice), (.cell (.int .i64)), (.cell (.int .i64))]) (tx := f336) e336
def en337 : Entry := mkEntry LL [(.cell .slice), (.cell (.int .i64)), (.cell (.int .i64))] f337
theorem k337 : Entry.ok CC LL 337 en337 := okOf (sh := [(.cell .slice), (.cell (.int .i64)), (.cell (.int .i64))]) (tx := f337) e337
def en338 : Entry := mkEntry LL [(.cell (.int .i64)), (.cell (.int .i64))] f338
theorem k338 : Entry.ok CC LL 338 en338 := okOf (sh := [(.cell (.int .i64)), (.cell (.int .i64))]) (tx := f338) e338
def en339 : Entry := mkEntry LL [(.cell .slice), (.cell (.int .i64)), (.cell (.int .i64)), (.cell (.int .i64))] f339
theorem k339 : Entry.ok CC LL 339 en339 := okOf (sh := [(.cell .slice), (.cell (.int .i64)), (.cell (.int .i64)), (.cell (.int .i64))]) (tx := f339) e339
def en340 : Entry := mkEntry LL [(.cell .slice), (.cell (.int .i64)), (.cell (.int .i64)), (.cell (.int .i64))] f340
theorem k340 : Entry.ok CC LL 340 en340 := okOf (sh := [(.cell .slice), (.cell (.int .i64)), (.cell (.int .i64)), (.cell (.int .i64))]) (tx := f340) e340
def en341 : Entry := mkEntry LL [(.cell (.int .u32))] f341
theorem k341 : Entry.ok CC LL 341 en341 := okOf (sh := [(.cell (.int .u32))]) (tx := f341) e341
def en342 : Entry := mkEntry LL [(.cell (.int .u64))] f342
theorem k342 : Entry.ok CC LL 342 en342 := okOf (sh := [(.cell (.int .u64))]) (tx := f342) e342
def en348 : Entry := mkEntry LL [(.cell (.int .u8)), (.cell (.int .u8))] f348
theorem k348 : Entry.ok CC LL 348 en348 := okOf (sh := [(.cell (.int .u8)), (.cell (.int .u8))]) (tx := f348) e348
def en349 : Entry := mkEntry LL [(.cell (.int .u8)), (.cell (.int .u8))] f349
theorem k349 : Entry.ok CC LL 349 en349 := okOf (sh := [(.cell (.int .u8)), (.cell (.int .u8))]) (tx := f349) e349
def en350 : Entry := mkEntry LL [(.cell (.int .u8))] f350
theorem k350 : Entry.ok CC LL 350 en350 := okOf (sh := [(.cell (.int .u8))]) (tx := f350) e350
def en351 : Entry := mkEntry LL [(.cell (.int .u64)), (.cell .slice)] f351
theorem k351 : Entry.ok CC LL 351 en351 := okOf (sh := [(.cell (.int .u64)), (.cell .slice)]) (tx := f351) e351
def en352 : Entry := mkEntry LL [(.cell .ptr), (.cell (.int .i64)), (.cell (.int .i64))] f352
theorem k352 : Entry.ok CC LL 352 en352 := okOf (sh := [(.cell .ptr), (.cell (.int .i64)), (.cell (.int .i64))]) (tx := f352) e352
def en353 : Entry := mkEntry LL [(.cell (.int .i64))] f353
theorem k353 : Entry.ok CC LL 353 en353 := okOf (sh := [(.cell (.int .i64))]) (tx := f353) e353
def en354 : Entry := mkEntry LL [(.cell (.int .u8))] f354
theorem k354 : Entry.ok CC LL 354 en354 := okOf (sh := [(.cell (.int .u8))]) (tx := f354) e354
def en355 : Entry := mkEntry LL [(.cell (.int .u64)), (.cell .slice)] f355
theorem k355 : Entry.ok CC LL 355 en355 := okOf (sh := [(.cell (.int .u64)), (.cell .slice)]) (tx := f355) e355
def en356 : Entry := mkEntry LL [(.cell .ptr), (.cell (.int .i64)), (.cell (.int .i64))] f356
theorem k356 : Entry.ok CC LL 356 en356 := okOf (sh := [(.cell .ptr), (.cell (.int .i64)), (.cell (.int .i64))]) (tx := f356) e356
def en358 : Entry := mkEntry LL [(.cell .ptr), (.cell (.int .i64)), (.cell (.int .i64))] f358
theorem k358 : Entry.ok CC LL 358 en358 := okOf (sh := [(.cell .ptr), (.cell (.int .i64)), (.cell (.int .i64))]) (tx := f358) e358
def en359 : Entry := mkEntry LL [(.cell .slice)] f359
theorem k359 : Entry.ok CC LL 359 en359 := okOf (sh := [(.cell .slice)]) (tx := f359) e359
def en360 : Entry := mkEntry LL [(.cell .slice), (.cell .ptr), (.cell .ptr)] f360
theorem k360 : Entry.ok CC LL 360 en360 := okOf (sh := [(.cell .slice), (.cell .ptr), (.cell .ptr)]) (tx := f360) e360
def en361 : Entry := mkEntry LL [(.cell .slice), (.cell .val)] f361
theorem k361 : Entry.ok CC LL 361 en361 := okOf (sh := [(.cell .slice), (.cell .val)]) (tx := f361) e361
def en362 : Entry := mkEntry LL [(.cell .slice)] f362
theorem k362 : Entry.ok CC LL 362 en362 := okOf (sh := [(.cell .slice)]) (tx := f362) e362
def en363 : Entry := mkEntry LL [(.cell .slice), (.cell (.int .i64)), (.cell (.int .i64)), (.cell (.int .i64))] f363
theorem k363 : Entry.ok CC LL 363 en363 := okOf (sh := [(.cell .slice), (.cell (.int .i64)), (.cell (.int .i64)), (.cell (.int .i64))]) (tx := f363) e363
def en364 : Entry := mkEntry LL [(.cell (.int .i64))] f364
theorem k364 : Entry.ok CC LL 364 en364 := okOf (sh := [(.cell (.int .i64))]) (tx := f364) e364
def en365 : Entry := mkEntry LL [(.cell .ptr)] f365
theorem k365 : Entry.ok CC LL 365 en365 := okOf (sh := [(.cell .ptr)]) (tx := f365) e365
def en366 : Entry := mkEntry LL [(.cell .slice), (.cell (.int .i64)), (.cell .ptr)] f366
theorem k366 : Entry.ok CC LL 366 en366 := okOf (sh := [(.cell .slice), (.cell (.int .i64)), (.cell .ptr)]) (tx := f366) e366
def en367 : Entry := mkEntry LL [(.cell .slice), (.cell (.int .i64)), (.cell (.int .i64)), (.cell (.int .i64)), (.cell .ptr)] f367
theorem k367 : Entry.ok CC LL 367 en367 := okOf (sh := [(.cell .slice), (.cell (.int .i64)), (.cell (.int .i64)), (.cell (.int .i64)), (.cell .ptr)]) (tx := f367) e367
def en368 : Entry := mkEntry LL [(.cell (.int .i64))] f368
theorem k368 : Entry.ok CC LL 368 en368 := okOf (sh := [(.cell (.int .i64))]) (tx := f368) e368
def en374 : Entry := mkEntry LL [(.cell (.int .u8))] f374
theorem k374 : Entry.ok CC LL 374 en374 := okOf (sh := [(.cell (.int .u8))]) (tx := f374) e374
def en375 : Entry := mkEntry LL [(.cell (.int .u8))] f375
theorem k375 : Entry.ok CC LL 375 en375 := okOf (sh := [(.cell (.int .u8))]) (tx := f375) e375
def en376 : Entry := mkEntry LL [(.cell (.int .i64))] f376
theorem k376 : Entry.ok CC LL 376 en376 := okOf (sh := [(.cell (.int .i64))]) (tx := f376) e376
def en377 : Entry := mkEntry LL [(.cell .ptr), (.cell (.int .i64)), (.cell (.int .i64))] f377
theorem k377 : Entry.ok CC LL 377 en377 := okOf (sh := [(.cell .ptr), (.cell (.int .i64)), (.cell (.int .i64))]) (tx := f377) e377
def en378 : Entry := mkEntry LL [(.cell .slice), (.cell .val)] f378
theorem k378 : Entry.ok CC LL 378 en378 := okOf (sh := [(.cell .slice), (.cell .val)]) (tx := f378) e378
def en379 : Entry := mkEntry LL [(.cell .slice)] f379
theorem k379 : Entry.ok CC LL 379 en379 := okOf (sh := [(.cell .slice)]) (tx := f379) e379
def en381 : Entry := mkEntry LL [(.cell (.int .i64))] f381
theorem k381 : Entry.ok CC LL 381 en381 := okOf (sh := [(.cell (.int .i64))]) (tx := f381) e381
def en382 : Entry := mkEntry LL [(.cell .slice), (.cell .slice)] f382
theorem k382 : Entry.ok CC LL 382 en382 := okOf (sh := [(.cell .slice), (.cell .slice)]) (tx := f382) e382
def en383 : Entry := mkEntry LL [(.cell .slice), (.cell (.int .i64)), (.cell (.int .i64)), (.cell .ptr)] f383
theorem k383 : Entry.ok CC LL 383 en383 := okOf (sh := [(.cell .slice), (.cell (.int .i64)), (.cell (.int .i64)), (.cell .ptr)]) (tx := f383) e383
def en384 : Entry := mkEntry LL [] f384
theorem k384 : Entry.ok CC LL 384 en384 := okOf (sh := []) (tx := f384) e384
def en385 : Entry := mkEntry LL [(.cell (.int .i64))] f385
theorem k385 : Entry.ok CC LL 385 en385 := okOf (sh := [(.cell (.int .i64))]) (tx := f385) e385
def en386 : Entry := mkEntry LL [(.cell (.int .i64)), (.cell (.int .i64))] f386
theorem k386 : Entry.ok CC LL 386 en386 := okOf (sh := [(.cell (.int .i64)), (.cell (.int .i64))]) (tx := f386) e386
def en387 : Entry := mkEntry LL [(.cell .slice), (.cell .slice), (.cell (.int .u8))] f387
theorem k387 : Entry.ok CC LL 387 en387 := okOf (sh := [(.cell .slice), (.cell .slice), (.cell (.int .u8))]) (tx := f387) e387
def tr382 : Tree Entry := .node (some en382) .leaf .leaf
theorem tk382 : AllT (Entry.ok CC LL) tr382 382 256 := AllT.mk (allSome k382) (AllT.leaf 638 512) (AllT.leaf 894 512) rfl rfl rfl
def tr254 : Tree Entry := .node none tr382 .leaf
theorem tk254 : AllT (Entry.ok CC LL) tr254 254 128 := AllT.mk allNone tk382 (AllT.leaf 510 256) rfl rfl rfl
def tr318 : Tree Entry := .node (some en318) .leaf .leaf
theorem tk318 : AllT (Entry.ok CC LL) tr318 318 256 := AllT.mk (allSome k318) (AllT.leaf 574 512) (AllT.leaf 830 512) rfl rfl rfl
def tr190 : Tree Entry := .node (some en190) tr318 .leaf
theorem tk190 : AllT (Entry.ok CC LL) tr190 190 128 := AllT.mk (allSome k190) tk318 (AllT.leaf 446 256) rfl rfl rfl
def tr126 : Tree Entry := .node none tr190 tr254
theorem tk126 : AllT (Entry.ok CC LL) tr126 126 64 := AllT.mk allNone tk190 tk254 rfl rfl rfl
def tr350 : Tree Entry := .node (some en350) .leaf .leaf
theorem tk350 : AllT (Entry.ok CC LL) tr350 350 256 := AllT.mk (allSome k350) (AllT.leaf 606 512) (AllT.leaf 862 512) rfl rfl rfl
def tr222 : Tree Entry := .node none tr350 .leaf
theorem tk222 : AllT (Entry.ok CC LL) tr222 222 128 := AllT.mk allNone tk350 (AllT.leaf 478 256) rfl rfl rfl
def tr414 : Tree Entry := .node none .leaf .leaf
theorem tk414 : AllT (Entry.ok CC LL) tr414 414 256 := AllT.mk allNone (AllT.leaf 670 512) (AllT.leaf 926 512) rfl rfl rfl
def tr286 : Tree Entry := .node none .leaf .leaf
theorem tk286 : AllT (Entry.ok CC LL) tr286 286 256 := AllT.mk allNone (AllT.leaf 542 512) (AllT.leaf 798 512) rfl rfl rfl
def tr158 : Tree Entry := .node none tr286 tr414
theorem tk158 : AllT (Entry.ok CC LL) tr158 158 128 := AllT.mk allNone tk286 tk414 rfl rfl rfl
def tr94 : Tree Entry := .node none tr158 tr222
theorem tk94 : AllT (Entry.ok CC LL) tr94 94 64 := AllT.mk allNone tk158 tk222 rfl rfl rfl
def tr62 : Tree Entry := .node none tr94 tr126
theorem tk62 : AllT (Entry.ok CC LL) tr62 62 32 := AllT.mk allNone tk94 tk126 rfl rfl rfl
def tr366 : Tree Entry := .node (some en366) .leaf .leaf
theorem tk366 : AllT (Entry.ok CC LL) tr366 366 256 := AllT.mk (allSome k366) (AllT.leaf 622 512) (AllT.leaf 878 512) rfl rfl rfl
def tr238 : Tree Entry := .node (some en238) tr366 .leaf
theorem tk238 : AllT (Entry.ok CC LL) tr238 238 128 := AllT.mk (allSome k238) tk366 (AllT.leaf 494 256) rfl rfl rfl
def tr430 : Tree Entry := .node none .leaf .leaf
theorem tk430 : AllT (Entry.ok CC LL) tr430 430 256 := AllT.mk allNone (AllT.leaf 686 512) (AllT.leaf 942 512) rfl rfl rfl
def tr302 : Tree Entry := .node none .leaf .leaf
theorem tk302 : AllT (Entry.ok CC LL) tr302 302 256 := AllT.mk allNone (AllT.leaf 558 512) (AllT.leaf 814 512) rfl rfl rfl
def tr174 : Tree Entry := .node (some en174) tr302 tr430
theorem tk174 : AllT (Entry.ok CC LL) tr174 174 128 := AllT.mk (allSome k174) tk302 tk430 rfl rfl rfl
def tr110 : Tree Entry := .node (some en110) tr174 tr238
theorem tk110 : AllT (Entry.ok CC LL) tr110 110 64 := AllT.mk (allSome k110) tk174 tk238 rfl rfl rfl
def tr334 : Tree Entry := .node (some en334) .leaf .leaf
theorem tk334 : AllT (Entry.ok CC LL) tr334 334 256 := AllT.mk (allSome k334) (AllT.leaf 590 512) (AllT.leaf 846 512) rfl rfl rfl
def tr206 : Tree Entry := .node (some en206) tr334 .leaf
theorem tk206 : AllT (Entry.ok CC LL) tr206 206 128 := AllT.mk (allSome k206) tk334 (AllT.leaf 462 256) rfl rfl rfl
def tr398 : Tree Entry := .node none .leaf .leaf
theorem tk398 : AllT (Entry.ok CC LL) tr398 398 256 := AllT.mk allNone (AllT.leaf 654 512) (AllT.leaf 910 512) rfl rfl rfl
def tr270 : Tree Entry := .node (some en270) .leaf .leaf
theorem tk270 : AllT (Entry.ok CC LL) tr270 270 256 := AllT.mk (allSome k270) (AllT.leaf 526 512) (AllT.leaf 782 512) rfl rfl rfl
def tr142 : Tree Entry := .node none tr270 tr398
theorem tk142 : AllT (Entry.ok CC LL) tr142 142 128 := AllT.mk allNone tk270 tk398 rfl rfl rfl
def tr78 : Tree Entry := .node none tr142 tr206
theorem tk78 : AllT (Entry.ok CC LL) tr78 78 64 := AllT.mk allNone tk142 tk206 rfl rfl rfl
def tr46 : Tree Entry := .node (some en46) tr78 tr110
theorem tk46 : AllT (Entry.ok CC LL) tr46 46 32 := AllT.mk (allSome k46) tk78 tk110 rfl rfl rfl
def tr30 : Tree Entry := .node none tr46 tr62
theorem tk30 : AllT (Entry.ok CC LL) tr30 30 16 := AllT.mk allNone tk46 tk62 rfl rfl rfl
def tr374 : Tree Entry := .node (some en374) .leaf .leaf
theorem tk374 : AllT (Entry.ok CC LL) tr374 374 256 := AllT.mk (allSome k374) (AllT.leaf 630 512) (AllT.leaf 886 512) rfl rfl rfl
def tr246 : Tree Entry := .node (some en246) tr374 .leaf
theorem tk246 : AllT (Entry.ok CC LL) tr246 246 128 := AllT.mk (allSome k246) tk374 (AllT.leaf 502 256) rfl rfl rfl
def tr310 : Tree Entry := .node none .leaf .leaf
theorem tk310 : AllT (Entry.ok CC LL) tr310 310 256 := AllT.mk allNone (AllT.leaf 566 512) (AllT.leaf 822 512) rfl rfl rfl
def tr182 : Tree Entry := .node (some en182) tr310 .leaf
theorem tk182 : AllT (Entry.ok CC LL) tr182 182 128 := AllT.mk (allSome k182) tk310 (AllT.leaf 438 256) rfl rfl rfl
def tr118 : Tree Entry := .node none tr182 tr246
theorem tk118 : AllT (Entry.ok CC LL) tr118 118 64 := AllT.mk allNone tk182 tk246 rfl rfl rfl
def tr342 : Tree Entry := .node (some en342) .leaf .leaf
theorem tk342 : AllT (Entry.ok CC LL) tr342 342 256 := AllT.mk (allSome k342) (AllT.leaf 598 512) (AllT.leaf 854 512) rfl rfl rfl
def tr214 : Tree Entry := .node none tr342 .leaf
theorem tk214 : AllT (Entry.ok CC LL) tr214 214 128 := AllT.mk allNone tk342 (AllT.leaf 470 256) rfl rfl rfl
def tr406 : Tree Entry := .node none .leaf .leaf
theorem tk406 : AllT (Entry.ok CC LL) tr406 406 256 := AllT.mk allNone (AllT.leaf 662 512) (AllT.leaf 918 512) rfl rfl rfl
def tr278 : Tree Entry := .node none .leaf .leaf
theorem tk278 : AllT (Entry.ok CC LL) tr278 278 256 := AllT.mk allNone (AllT.leaf 534 512) (AllT.leaf 790 512) rfl rfl rfl
def tr150 : Tree Entry := .node none tr278 tr406
theorem tk150 : AllT (Entry.ok CC LL) tr150 150 128 := AllT.mk allNone tk278 tk406 rfl rfl rfl
def tr86 : Tree Entry := .node none tr150 tr214
theorem tk86 : AllT (Entry.ok CC LL) tr86 86 64 := AllT.mk allNone tk150 tk214 rfl rfl rfl
def tr54 : Tree Entry := .node (some en54) tr86 tr118
theorem tk54 : AllT (Entry.ok CC LL) tr54 54 32 := AllT.mk (allSome k54) tk86 tk118 rfl rfl rfl
def tr358 : Tree Entry := .node (some en358) .leaf .leaf
theorem tk358 : AllT (Entry.ok CC LL) tr358 358 256 := AllT.mk (allSome k358) (AllT.leaf 614 512) (AllT.leaf 870 512) rfl rfl rfl
def tr230 : Tree Entry := .node (some en230) tr358 .leaf
theorem tk230 : AllT (Entry.ok CC LL) tr230 230 128 := AllT.mk (allSome k230) tk358 (AllT.leaf 486 256) rfl rfl rfl
def tr422 : Tree Entry := .node none .leaf .leaf
theorem tk422 : AllT (Entry.ok CC LL) tr422 422 256 := AllT.mk allNone (AllT.leaf 678 512) (AllT.leaf 934 512) rfl rfl rfl
def tr294 : Tree Entry := .node none .leaf .leaf
theorem tk294 : AllT (Entry.ok CC LL) tr294 294 256 := AllT.mk allNone (AllT.leaf 550 512) (AllT.leaf 806 512) rfl rfl rfl
def tr166 : Tree Entry := .node (some en166) tr294 tr422
theorem tk166 : AllT (Entry.ok CC LL) tr166 166 128 := AllT.mk (allSome k166) tk294 tk422 rfl rfl rfl
def tr102 : Tree Entry := .node (some en102) tr166 tr230
theorem tk102 : AllT (Entry.ok CC LL) tr102 102 64 := AllT.mk (allSome k102) tk166 tk230 rfl rfl rfl
def tr326 : Tree Entry := .node none .leaf .leaf
theorem tk326 : AllT (Entry.ok CC LL) tr326 326 256 := AllT.mk allNone (AllT.leaf 582 512) (AllT.leaf 838 512) rfl rfl rfl
def tr198 : Tree Entry := .node (some en198) tr326 .leaf
theorem tk198 : AllT (Entry.ok CC LL) tr198 198 128 := AllT.mk (allSome k198) tk326 (AllT.leaf 454 256) rfl rfl rfl
def tr390 : Tree Entry := .node none .leaf .leaf
theorem tk390 : AllT (Entry.ok CC LL) tr390 390 256 := AllT.mk allNone (AllT.leaf 646 512) (AllT.leaf 902 512) rfl rfl rfl
def tr262 : Tree Entry := .node (some en262) .leaf .leaf
theorem tk262 : AllT (Entry.ok CC LL) tr262 262 256 := AllT.mk (allSome k262) (AllT.leaf 518 512) (AllT.leaf 774 512) rfl rfl rfl
def tr134 : Tree Entry := .node (some en134) tr262 tr390
theorem tk134 : AllT (Entry.ok CC LL) tr134 134 128 := AllT.mk (allSome k134) tk262 tk390 rfl rfl rfl
def tr70 : Tree Entry := .node (some en70) tr134 tr198
theorem tk70 : AllT (Entry.ok CC LL) tr70 70 64 := AllT.mk (allSome k70) tk134 tk198 rfl rfl rfl
def tr38 : Tree Entry := .node none tr70 tr102
theorem tk38 : AllT (Entry.ok CC LL) tr38 38 32 := AllT.mk allNone tk70 tk102 rfl rfl rfl
def tr22 : Tree Entry := .node (some en22) tr38 tr54
theorem tk22 : AllT (Entry.ok CC LL) tr22 22 16 := AllT.mk (allSome k22) tk38 tk54 rfl rfl rfl
def tr14 : Tree Entry := .node none tr22 tr30
theorem tk14 : AllT (Entry.ok CC LL) tr14 14 8 := AllT.mk allNone tk22 tk30 rfl rfl rfl
def tr378 : Tree Entry := .node (some en378) .leaf .leaf
theorem tk378 : AllT (Entry.ok CC LL) tr378 378 256 := AllT.mk (allSome k378) (AllT.leaf 634 512) (AllT.leaf 890 512) rfl rfl rfl
def tr250 : Tree Entry := .node (some en250) tr378 .leaf
theorem tk250 : AllT (Entry.ok CC LL) tr250 250 128 := AllT.mk (allSome k250) tk378 (AllT.leaf 506 256) rfl rfl rfl
def tr314 : Tree Entry := .node (some en314) .leaf .leaf
theorem tk314 : AllT (Entry.ok CC LL) tr314 314 256 := AllT.mk (allSome k314) (AllT.leaf 570 512) (AllT.leaf 826 512) rfl rfl rfl
def tr186 : Tree Entry := .node (some en186) tr314 .leaf
theorem tk186 : AllT (Entry.ok CC LL) tr186 186 128 := AllT.mk (allSome k186) tk314 (AllT.leaf 442 256) rfl rfl rfl
def tr122 : Tree Entry := .node (some en122) tr186 tr250
theorem tk122 : AllT (Entry.ok CC LL) tr122 122 64 := AllT.mk (allSome k122) tk186 tk250 rfl rfl rfl
def tr346 : Tree Entry := .node none .leaf .leaf
theorem tk346 : AllT (Entry.ok CC LL) tr346 346 256 := AllT.mk allNone (AllT.leaf 602 512) (AllT.leaf 858 512) rfl rfl rfl
def tr218 : Tree Entry := .node none tr346 .leaf
theorem tk218 : AllT (Entry.ok CC LL) tr218 218 128 := AllT.mk allNone tk346 (AllT.leaf 474 256) rfl rfl rfl
def tr410 : Tree Entry := .node none .leaf .leaf
theorem tk410 : AllT (Entry.ok CC LL) tr410 410 256 := AllT.mk allNone (AllT.leaf 666 512) (AllT.leaf 922 512) rfl rfl rfl
def tr282 : Tree Entry := .node none .leaf .leaf
theorem tk282 : AllT (Entry.ok CC LL) tr282 282 256 := AllT.mk allNone (AllT.leaf 538 512) (AllT.leaf 794 512) rfl rfl rfl
def tr154 : Tree Entry := .node none tr282 tr410
theorem tk154 : AllT (Entry.ok CC LL) tr154 154 128 := AllT.mk allNone tk282 tk410 rfl rfl rfl
def tr90 : Tree Entry := .node none tr154 tr218
theorem tk90 : AllT (Entry.ok CC LL) tr90 90 64 := AllT.mk allNone tk154 tk218 rfl rfl rfl
def tr58 : Tree Entry := .node (some en58) tr90 tr122
theorem tk58 : AllT (Entry.ok CC LL) tr58 58 32 := AllT.mk (allSome k58) tk90 tk122 rfl rfl rfl
def tr362 : Tree Entry := .node (some en362) .leaf .leaf
theorem tk362 : AllT (Entry.ok CC LL) tr362 362 256 := AllT.mk (allSome k362) (AllT.leaf 618 512) (AllT.leaf 874 512) rfl rfl rfl
def tr234 : Tree Entry := .node (some en234) tr362 .leaf
theorem tk234 : AllT (Entry.ok CC LL) tr234 234 128 := AllT.mk (allSome k234) tk362 (AllT.leaf 490 256) rfl rfl rfl
def tr426 : Tree Entry := .node none .leaf .leaf
theorem tk426 : AllT (Entry.ok CC LL) tr426 426 256 := AllT.mk allNone (AllT.leaf 682 512) (AllT.leaf 938 512) rfl rfl rfl
def tr298 : Tree Entry := .node (some en298) .leaf .leaf
theorem tk298 : AllT (Entry.ok CC LL) tr298 298 256 := AllT.mk (allSome k298) (AllT.leaf 554 512) (AllT.leaf 810 512) rfl rfl rfl
def tr170 : Tree Entry := .node (some en170) tr298 tr426
theorem tk170 : AllT (Entry.ok CC LL) tr170 170 128 := AllT.mk (allSome k170) tk298 tk426 rfl rfl rfl
def tr106 : Tree Entry := .node (some en106) tr170 tr234
theorem tk106 : AllT (Entry.ok CC LL) tr106 106 64 := AllT.mk (allSome k106) tk170 tk234 rfl rfl rfl
def tr330 : Tree Entry := .node (some en330) .leaf .leaf
theorem tk330 : AllT (Entry.ok CC LL) tr330 330 256 := AllT.mk (allSome k330) (AllT.leaf 586 512) (AllT.leaf 842 512) rfl rfl rfl
def tr202 : Tree Entry := .node (some en202) tr330 .leaf
theorem tk202 : AllT (Entry.ok CC LL) tr202 202 128 := AllT.mk (allSome k202) tk330 (AllT.leaf 458 256) rfl rfl rfl
def tr394 : Tree Entry := .node none .leaf .leaf
theorem tk394 : AllT (Entry.ok CC LL) tr394 394 256 := AllT.mk allNone (AllT.leaf 650 512) (AllT.leaf 906 512) rfl rfl rfl
def tr266 : Tree Entry := .node (some en266) .leaf .leaf
theorem tk266 : AllT (Entry.ok CC LL) tr266 266 256 := AllT.mk (allSome k266) (AllT.leaf 522 512) (AllT.leaf 778 512) rfl rfl rfl
def tr138 : Tree Entry := .node (some en138) tr266 tr394
theorem tk138 : AllT (Entry.ok CC LL) tr138 138 128 := AllT.mk (allSome k138) tk266 tk394 rfl rfl rfl
def tr74 : Tree Entry := .node none tr138 tr202
theorem tk74 : AllT (Entry.ok CC LL) tr74 74 64 := AllT.mk allNone tk138 tk202 rfl rfl rfl
def tr42 : Tree Entry := .node none tr74 tr106
theorem tk42 : AllT (Entry.ok CC LL) tr42 42 32 := AllT.mk allNone tk74 tk106 rfl rfl rfl
def tr26 : Tree Entry := .node (some en26) tr42 tr58
theorem tk26 : AllT (Entry.ok CC LL) tr26 26 16 := AllT.mk (allSome k26) tk42 tk58 rfl rfl rfl
def tr370 : Tree Entry := .node none .leaf .leaf
theorem tk370 : AllT (Entry.ok CC LL) tr370 370 256 := AllT.mk allNone (AllT.leaf 626 512) (AllT.leaf 882 512) rfl rfl rfl
def tr242 : Tree Entry := .node (some en242) tr370 .leaf
theorem tk242 : AllT (Entry.ok CC LL) tr242 242 128 := AllT.mk (allSome k242) tk370 (AllT.leaf 498 256) rfl rfl rfl
def tr306 : Tree Entry := .node (some en306) .leaf .leaf
theorem tk306 : AllT (Entry.ok CC LL) tr306 306 256 := AllT.mk (allSome k306) (AllT.leaf 562 512) (AllT.leaf 818 512) rfl rfl rfl
def tr178 : Tree Entry := .node (some en178) tr306 .leaf
theorem tk178 : AllT (Entry.ok CC LL) tr178 178 128 := AllT.mk (allSome k178) tk306 (AllT.leaf 434 256) rfl rfl rfl
def tr114 : Tree Entry := .node (some en114) tr178 tr242
theorem tk114 : AllT (Entry.ok CC LL) tr114 114 64 := AllT.mk (allSome k114) tk178 tk242 rfl rfl rfl
def tr338 : Tree Entry := .node (some en338) .leaf .leaf
theorem tk338 : AllT (Entry.ok CC LL) tr338 338 256 := AllT.mk (allSome k338) (AllT.leaf 594 512) (AllT.leaf 850 512) rfl rfl rfl
def tr210 : Tree Entry := .node none tr338 .leaf
theorem tk210 : AllT (Entry.ok CC LL) tr210 210 128 := AllT.mk allNone tk338 (AllT.leaf 466 256) rfl rfl rfl
def tr402 : Tree Entry := .node none .leaf .leaf
theorem tk402 : AllT (Entry.ok CC LL) tr402 402 256 := AllT.mk allNone (AllT.leaf 658 512) (AllT.leaf 914 512) rfl rfl rfl
def tr274 : Tree Entry := .node none .leaf .leaf
theorem tk274 : AllT (Entry.ok CC LL) tr274 274 256 := AllT.mk allNone (AllT.leaf 530 512) (AllT.leaf 786 512) rfl rfl rfl
def tr146 : Tree Entry := .node none tr274 tr402
theorem tk146 : AllT (Entry.ok CC LL) tr146 146 128 := AllT.mk allNone tk274 tk402 rfl rfl rfl
def tr82 : Tree Entry := .node none tr146 tr210
theorem tk82 : AllT (Entry.ok CC LL) tr82 82 64 := AllT.mk allNone tk146 tk210 rfl rfl rfl
def tr50 : Tree Entry := .node (some en50) tr82 tr114
theorem tk50 : AllT (Entry.ok CC LL) tr50 50 32 := AllT.mk (allSome k50) tk82 tk114 rfl rfl rfl
def tr354 : Tree Entry := .node (some en354) .leaf .leaf
theorem tk354 : AllT (Entry.ok CC LL) tr354 354 256 := AllT.mk (allSome k354) (AllT.leaf 610 512) (AllT.leaf 866 512) rfl rfl rfl
def tr226 : Tree Entry := .node none tr354 .leaf
theorem tk226 : AllT (Entry.ok CC LL) tr226 226 128 := AllT.mk allNone tk354 (AllT.leaf 482 256) rfl rfl rfl
def tr418 : Tree Entry := .node none .leaf .leaf
theorem tk418 : AllT (Entry.ok CC LL) tr418 418 256 := AllT.mk allNone (AllT.leaf 674 512) (AllT.leaf 930 512) rfl rfl rfl
def tr290 : Tree Entry := .node none .leaf .leaf
theorem tk290 : AllT (Entry.ok CC LL) tr290 290 256 := AllT.mk allNone (AllT.leaf 546 512) (AllT.leaf 802 512) rfl rfl rfl
def tr162 : Tree Entry := .node (some en162) tr290 tr418
theorem tk162 : AllT (Entry.ok CC LL) tr162 162 128 := AllT.mk (allSome k162) tk290 tk418 rfl rfl rfl
def tr98 : Tree Entry := .node (some en98) tr162 tr226
theorem tk98 : AllT (Entry.ok CC LL) tr98 98 64 := AllT.mk (allSome k98) tk162 tk226 rfl rfl rfl
def tr322 : Tree Entry := .node none .leaf .leaf
theorem tk322 : AllT (Entry.ok CC LL) tr322 322 256 := AllT.mk allNone (AllT.leaf 578 512) (AllT.leaf 834 512) rfl rfl rfl
def tr194 : Tree Entry := .node none tr322 .leaf
theorem tk194 : AllT (Entry.ok CC LL) tr194 194 128 := AllT.mk allNone tk322 (AllT.leaf 450 256) rfl rfl rfl
def tr386 : Tree Entry := .node (some en386) .leaf .leaf
theorem tk386 : AllT (Entry.ok CC LL) tr386 386 256 := AllT.mk (allSome k386) (AllT.leaf 642 512) (AllT.leaf 898 512) rfl rfl rfl
def tr258 : Tree Entry := .node (some en258) .leaf .leaf
theorem tk258 : AllT (Entry.ok CC LL) tr258 258 256 := AllT.mk (allSome k258) (AllT.leaf 514 512) (AllT.leaf 770 512) rfl rfl rfl
def tr130 : Tree Entry := .node none tr258 tr386
theorem tk130 : AllT (Entry.ok CC LL) tr130 130 128 := AllT.mk allNone tk258 tk386 rfl rfl rfl
def tr66 : Tree Entry := .node (some en66) tr130 tr194
theorem tk66 : AllT (Entry.ok CC LL) tr66 66 64 := AllT.mk (allSome k66) tk130 tk194 rfl rfl rfl
def tr34 : Tree Entry := .node none tr66 tr98
theorem tk34 : AllT (Entry.ok CC LL) tr34 34 32 := AllT.mk allNone tk66 tk98 rfl rfl rfl
def tr18 : Tree Entry := .node (some en18) tr34 tr50
theorem tk18 : AllT (Entry.ok CC LL) tr18 18 16 := AllT.mk (allSome k18) tk34 tk50 rfl rfl rfl
def tr10 : Tree Entry := .node none tr18 tr26
theorem tk10 : AllT (Entry.ok CC LL) tr10 10 8 := AllT.mk allNone tk18 tk26 rfl rfl rfl
def tr6 : Tree Entry := .node none tr10 tr14
theorem tk6 : AllT (Entry.ok CC LL) tr6 6 4 := AllT.mk allNone tk10 tk14 rfl rfl rfl
def tr380 : Tree Entry := .node none .leaf .leaf
theorem tk380 : AllT (Entry.ok CC LL) tr380 380 256 := AllT.mk allNone (AllT.leaf 636 512) (AllT.leaf 892 512) rfl rfl rfl
def tr252 : Tree Entry := .node none tr380 .leaf
theorem tk252 : AllT (Entry.ok CC LL) tr252 252 128 := AllT.mk allNone tk380 (AllT.leaf 508 256) rfl rfl rfl
def tr316 : Tree Entry := .node (some en316) .leaf .leaf
theorem tk316 : AllT (Entry.ok CC LL) tr316 316 256 := AllT.mk (allSome k316) (AllT.leaf 572 512) (AllT.leaf 828 512) rfl rfl rfl
def tr188 : Tree Entry := .node (some en188) tr316 .leaf
theorem tk188 : AllT (Entry.ok CC LL) tr188 188 128 := AllT.mk (allSome k188) tk316 (AllT.leaf 444 256) rfl rfl rfl
def tr124 : Tree Entry := .node (some en124) tr188 tr252
theorem tk124 : AllT (Entry.ok CC LL) tr124 124 64 := AllT.mk (allSome k124) tk188 tk252 rfl rfl rfl
def tr348 : Tree Entry := .node (some en348) .leaf .leaf
theorem tk348 : AllT (Entry.ok CC LL) tr348 348 256 := AllT.mk (allSome k348) (AllT.leaf 604 512) (AllT.leaf 860 512) rfl rfl rfl
def tr220 : Tree Entry := .node none tr348 .leaf
theorem tk220 : AllT (Entry.ok CC LL) tr220 220 128 := AllT.mk allNone tk348 (AllT.leaf 476 256) rfl rfl rfl
def tr412 : Tree Entry := .node none .leaf .leaf
theorem tk412 : AllT (Entry.ok CC LL) tr412 412 256 := AllT.mk allNone (AllT.leaf 668 512) (AllT.leaf 924 512) rfl rfl rfl
def tr284 : Tree Entry := .node none .leaf .leaf
theorem tk284 : AllT (Entry.ok CC LL) tr284 284 256 := AllT.mk allNone (AllT.leaf 540 512) (AllT.leaf 796 512) rfl rfl rfl
def tr156 : Tree Entry := .node none tr284 tr412
theorem tk156 : AllT (Entry.ok CC LL) tr156 156 128 := AllT.mk allNone tk284 tk412 rfl rfl rfl
def tr92 : Tree Entry := .node none tr156 tr220
theorem tk92 : AllT (Entry.ok CC LL) tr92 92 64 := AllT.mk allNone tk156 tk220 rfl rfl rfl
def tr60 : Tree Entry := .node (some en60) tr92 tr124
theorem tk60 : AllT (Entry.ok CC LL) tr60 60 32 := AllT.mk (allSome k60) tk92 tk124 rfl rfl rfl
def tr364 : Tree Entry := .node (some en364) .leaf .leaf
theorem tk364 : AllT (Entry.ok CC LL) tr364 364 256 := AllT.mk (allSome k364) (AllT.leaf 620 512) (AllT.leaf 876 512) rfl rfl rfl
def tr236 : Tree Entry := .node (some en236) tr364 .leaf
theorem tk236 : AllT (Entry.ok CC LL) tr236 236 128 := AllT.mk (allSome k236) tk364 (AllT.leaf 492 256) rfl rfl rfl
def tr428 : Tree Entry := .node none .leaf .leaf
theorem tk428 : AllT (Entry.ok CC LL) tr428 428 256 := AllT.mk allNone (AllT.leaf 684 512) (AllT.leaf 940 512) rfl rfl rfl
def tr300 : Tree Entry := .node (some en300) .leaf .leaf
theorem tk300 : AllT (Entry.ok CC LL) tr300 300 256 := AllT.mk (allSome k300) (AllT.leaf 556 512) (AllT.leaf 812 512) rfl rfl rfl
def tr172 : Tree Entry := .node (some en172) tr300 tr428
theorem tk172 : AllT (Entry.ok CC LL) tr172 172 128 := AllT.mk (allSome k172) tk300 tk428 rfl rfl rfl
def tr108 : Tree Entry := .node (some en108) tr172 tr236
theorem tk108 : AllT (Entry.ok CC LL) tr108 108 64 := AllT.mk (allSome k108) tk172 tk236 rfl rfl rfl
def tr332 : Tree Entry := .node (some en332) .leaf .leaf
theorem tk332 : AllT (Entry.ok CC LL) tr332 332 256 := AllT.mk (allSome k332) (AllT.leaf 588 512) (AllT.leaf 844 512) rfl rfl rfl
def tr204 : Tree Entry := .node (some en204) tr332 .leaf
theorem tk204 : AllT (Entry.ok CC LL) tr204 204 128 := AllT.mk (allSome k204) tk332 (AllT.leaf 460 256) rfl rfl rfl
def tr396 : Tree Entry := .node none .leaf .leaf
theorem tk396 : AllT (Entry.ok CC LL) tr396 396 256 := AllT.mk allNone (AllT.leaf 652 512) (AllT.leaf 908 512) rfl rfl rfl
def tr268 : Tree Entry := .node (some en268) .leaf .leaf
theorem tk268 : AllT (Entry.ok CC LL) tr268 268 256 := AllT.mk (allSome k268) (AllT.leaf 524 512) (AllT.leaf 780 512) rfl rfl rfl
def tr140 : Tree Entry := .node none tr268 tr396
theorem tk140 : AllT (Entry.ok CC LL) tr140 140 128 := AllT.mk allNone tk268 tk396 rfl rfl rfl
def tr76 : Tree Entry := .node none tr140 tr204
theorem tk76 : AllT (Entry.ok CC LL) tr76 76 64 := AllT.mk allNone tk140 tk204 rfl rfl rfl
def tr44 : Tree Entry := .node none tr76 tr108
theorem tk44 : AllT (Entry.ok CC LL) tr44 44 32 := AllT.mk allNone tk76 tk108 rfl rfl rfl
def tr28 : Tree Entry := .node none tr44 tr60
theorem tk28 : AllT (Entry.ok CC LL) tr28 28 16 := AllT.mk allNone tk44 tk60 rfl rfl rfl
def tr372 : Tree Entry := .node none .leaf .leaf
theorem tk372 : AllT (Entry.ok CC LL) tr372 372 256 := AllT.mk allNone (AllT.leaf 628 512) (AllT.leaf 884 512) rfl rfl rfl
def tr244 : Tree Entry := .node (some en244) tr372 .leaf
theorem tk244 : AllT (Entry.ok CC LL) tr244 244 128 := AllT.mk (allSome k244) tk372 (AllT.leaf 500 256) rfl rfl rfl
def tr308 : Tree Entry := .node none .leaf .leaf
theorem tk308 : AllT (Entry.ok CC LL) tr308 308 256 := AllT.mk allNone (AllT.leaf 564 512) (AllT.leaf 820 512) rfl rfl rfl
def tr180 : Tree Entry := .node none tr308 .leaf
theorem tk180 : AllT (Entry.ok CC LL) tr180 180 128 := AllT.mk allNone tk308 (AllT.leaf 436 256) rfl rfl rfl
def tr116 : Tree Entry := .node (some en116) tr180 tr244
theorem tk116 : AllT (Entry.ok CC LL) tr116 116 64 := AllT.mk (allSome k116) tk180 tk244 rfl rfl rfl
def tr340 : Tree Entry := .node (some en340) .leaf .leaf
theorem tk340 : AllT (Entry.ok CC LL) tr340 340 256 := AllT.mk (allSome k340) (AllT.leaf 596 512) (AllT.leaf 852 512) rfl rfl rfl
def tr212 : Tree Entry := .node none tr340 .leaf
theorem tk212 : AllT (Entry.ok CC LL) tr212 212 128 := AllT.mk allNone tk340 (AllT.leaf 468 256) rfl rfl rfl
def tr404 : Tree Entry := .node none .leaf .leaf
theorem tk404 : AllT (Entry.ok CC LL) tr404 404 256 := AllT.mk allNone (AllT.leaf 660 512) (AllT.leaf 916 512) rfl rfl rfl
def tr276 : Tree Entry := .node none .leaf .leaf
theorem tk276 : AllT (Entry.ok CC LL) tr276 276 256 := AllT.mk allNone (AllT.leaf 532 512) (AllT.leaf 788 512) rfl rfl rfl
def tr148 : Tree Entry := .node none tr276 tr404
theorem tk148 : AllT (Entry.ok CC LL) tr148 148 128 := AllT.mk allNone tk276 tk404 rfl rfl rfl
def tr84 : Tree Entry := .node none tr148 tr212
theorem tk84 : AllT (Entry.ok CC LL) tr84 84 64 := AllT.mk allNone tk148 tk212 rfl rfl rfl
def tr52 : Tree Entry := .node (some en52) tr84 tr116
theorem tk52 : AllT (Entry.ok CC LL) tr52 52 32 := AllT.mk (allSome k52) tk84 tk116 rfl rfl rfl
def tr356 : Tree Entry := .node (some en356) .leaf .leaf
theorem tk356 : AllT (Entry.ok CC LL) tr356 356 256 := AllT.mk (allSome k356) (AllT.leaf 612 512) (AllT.leaf 868 512) rfl rfl rfl
def tr228 : Tree Entry := .node (some en228) tr356 .leaf
theorem tk228 : AllT (Entry.ok CC LL) tr228 228 128 := AllT.mk (allSome k228) tk356 (AllT.leaf 484 256) rfl rfl rfl
def tr420 : Tree Entry := .node none .leaf .leaf
theorem tk420 : AllT (Entry.ok CC LL) tr420 420 256 := AllT.mk allNone (AllT.leaf 676 512) (AllT.leaf 932 512) rfl rfl rfl
def tr292 : Tree Entry := .node none .leaf .leaf
theorem tk292 : AllT (Entry.ok CC LL) tr292 292 256 := AllT.mk allNone (AllT.leaf 548 512) (AllT.leaf 804 512) rfl rfl rfl
def tr164 : Tree Entry := .node (some en164) tr292 tr420
theorem tk164 : AllT (Entry.ok CC LL) tr164 164 128 := AllT.mk (allSome k164) tk292 tk420 rfl rfl rfl
def tr100 : Tree Entry := .node none tr164 tr228
theorem tk100 : AllT (Entry.ok CC LL) tr100 100 64 := AllT.mk allNone tk164 tk228 rfl rfl rfl
def tr324 : Tree Entry := .node none .leaf .leaf
theorem tk324 : AllT (Entry.ok CC LL) tr324 324 256 := AllT.mk allNone (AllT.leaf 580 512) (AllT.leaf 836 512) rfl rfl rfl
def tr196 : Tree Entry := .node (some en196) tr324 .leaf
theorem tk196 : AllT (Entry.ok CC LL) tr196 196 128 := AllT.mk (allSome k196) tk324 (AllT.leaf 452 256) rfl rfl rfl
def tr388 : Tree Entry := .node none .leaf .leaf
theorem tk388 : AllT (Entry.ok CC LL) tr388 388 256 := AllT.mk allNone (AllT.leaf 644 512) (AllT.leaf 900 512) rfl rfl rfl
def tr260 : Tree Entry := .node (some en260) .leaf .leaf
theorem tk260 : AllT (Entry.ok CC LL) tr260 260 256 := AllT.mk (allSome k260) (AllT.leaf 516 512) (AllT.leaf 772 512) rfl rfl rfl
def tr132 : Tree Entry := .node (some en132) tr260 tr388
theorem tk132 : AllT (Entry.ok CC LL) tr132 132 128 := AllT.mk (allSome k132) tk260 tk388 rfl rfl rfl
def tr68 : Tree Entry := .node none tr132 tr196
theorem tk68 : AllT (Entry.ok CC LL) tr68 68 64 := AllT.mk allNone tk132 tk196 rfl rfl rfl
def tr36 : Tree Entry := .node none tr68 tr100
theorem tk36 : AllT (Entry.ok CC LL) tr36 36 32 := AllT.mk allNone tk68 tk100 rfl rfl rfl
def tr20 : Tree Entry := .node (some en20) tr36 tr52
theorem tk20 : AllT (Entry.ok CC LL) tr20 20 16 := AllT.mk (allSome k20) tk36 tk52 rfl rfl rfl
def tr12 : Tree Entry := .node none tr20 tr28
theorem tk12 : AllT (Entry.ok CC LL) tr12 12 8 := AllT.mk allNone tk20 tk28 rfl rfl rfl
def tr376 : Tree Entry := .node (some en376) .leaf .leaf
theorem tk376 : AllT (Entry.ok CC LL) tr376 376 256 := AllT.mk (allSome k376) (AllT.leaf 632 512) (AllT.leaf 888 512) rfl rfl rfl
def tr248 : Tree Entry := .node (some en248) tr376 .leaf
theorem tk248 : AllT (Entry.ok CC LL) tr248 248 128 := AllT.mk (allSome k248) tk376 (AllT.leaf 504 256) rfl rfl rfl
def tr312 : Tree Entry := .node (some en312) .leaf .leaf
theorem tk312 : AllT (Entry.ok CC LL) tr312 312 256 := AllT.mk (allSome k312) (AllT.leaf 568 512) (AllT.leaf 824 512) rfl rfl rfl
def tr184 : Tree Entry := .node (some en184) tr312 .leaf
theorem tk184 : AllT (Entry.ok CC LL) tr184 184 128 := AllT.mk (allSome k184) tk312 (AllT.leaf 440 256) rfl rfl rfl
def tr120 : Tree Entry := .node none tr184 tr248
theorem tk120 : AllT (Entry.ok CC LL) tr120 120 64 := AllT.mk allNone tk184 tk248 rfl rfl rfl
def tr344 : Tree Entry := .node none .leaf .leaf
theorem tk344 : AllT (Entry.ok CC LL) tr344 344 256 := AllT.mk allNone (AllT.leaf 600 512) (AllT.leaf 856 512) rfl rfl rfl
def tr216 : Tree Entry := .node none tr344 .leaf
theorem tk216 : AllT (Entry.ok CC LL) tr216 216 128 := AllT.mk allNone tk344 (AllT.leaf 472 256) rfl rfl rfl
def tr408 : Tree Entry := .node none .leaf .leaf
theorem tk408 : AllT (Entry.ok CC LL) tr408 408 256 := AllT.mk allNone (AllT.leaf 664 512) (AllT.leaf 920 512) rfl rfl rfl
def tr280 : Tree Entry := .node none .leaf .leaf
theorem tk280 : AllT (Entry.ok CC LL) tr280 280 256 := AllT.mk allNone (AllT.leaf 536 512) (AllT.leaf 792 512) rfl rfl rfl
def tr152 : Tree Entry := .node none tr280 tr408
theorem tk152 : AllT (Entry.ok CC LL) tr152 152 128 := AllT.mk allNone tk280 tk408 rfl rfl rfl
def tr88 : Tree Entry := .node none tr152 tr216
theorem tk88 : AllT (Entry.ok CC LL) tr88 88 64 := AllT.mk allNone tk152 tk216 rfl rfl rfl
def tr56 : Tree Entry := .node none tr88 tr120
theorem tk56 : AllT (Entry.ok CC LL) tr56 56 32 := AllT.mk allNone tk88 tk120 rfl rfl rfl
def tr360 : Tree Entry := .node (some en360) .leaf .leaf
theorem tk360 : AllT (Entry.ok CC LL) tr360 360 256 := AllT.mk (allSome k360) (AllT.leaf 616 512) (AllT.leaf 872 512) rfl rfl rfl
def tr232 : Tree Entry := .node (some en232) tr360 .leaf
theorem tk232 : AllT (Entry.ok CC LL) tr232 232 128 := AllT.mk (allSome k232) tk360 (AllT.leaf 488 256) rfl rfl rfl
def tr424 : Tree Entry := .node none .leaf .leaf
theorem tk424 : AllT (Entry.ok CC LL) tr424 424 256 := AllT.mk allNone (AllT.leaf 680 512) (AllT.leaf 936 512) rfl rfl rfl
def tr296 : Tree Entry := .node (some en296) .leaf .leaf
theorem tk296 : AllT (Entry.ok CC LL) tr296 296 256 := AllT.mk (allSome k296) (AllT.leaf 552 512) (AllT.leaf 808 512) rfl rfl rfl
def tr168 : Tree Entry := .node (some en168) tr296 tr424
theorem tk168 : AllT (Entry.ok CC LL) tr168 168 128 := AllT.mk (allSome k168) tk296 tk424 rfl rfl rfl
def tr104 : Tree Entry := .node (some en104) tr168 tr232
theorem tk104 : AllT (Entry.ok CC LL) tr104 104 64 := AllT.mk (allSome k104) tk168 tk232 rfl rfl rfl
def tr328 : Tree Entry := .node (some en328) .leaf .leaf
theorem tk328 : AllT (Entry.ok CC LL) tr328 328 256 := AllT.mk (allSome k328) (AllT.leaf 584 512) (AllT.leaf 840 512) rfl rfl rfl
def tr200 : Tree Entry := .node (some en200) tr328 .leaf
theorem tk200 : AllT (Entry.ok CC LL) tr200 200 128 := AllT.mk (allSome k200) tk328 (AllT.leaf 456 256) rfl rfl rfl
def tr392 : Tree Entry := .node none .leaf .leaf
theorem tk392 : AllT (Entry.ok CC LL) tr392 392 256 := AllT.mk allNone (AllT.leaf 648 512) (AllT.leaf 904 512) rfl rfl rfl
def tr264 : Tree Entry := .node (some en264) .leaf .leaf
theorem tk264 : AllT (Entry.ok CC LL) tr264 264 256 := AllT.mk (allSome k264) (AllT.leaf 520 512) (AllT.leaf 776 512) rfl rfl rfl
def tr136 : Tree Entry := .node none tr264 tr392
theorem tk136 : AllT (Entry.ok CC LL) tr136 136 128 := AllT.mk allNone tk264 tk392 rfl rfl rfl
def tr72 : Tree Entry := .node none tr136 tr200
theorem tk72 : AllT (Entry.ok CC LL) tr72 72 64 := AllT.mk allNone tk136 tk200 rfl rfl rfl
def tr40 : Tree Entry := .node none tr72 tr104
theorem tk40 : AllT (Entry.ok CC LL) tr40 40 32 := AllT.mk allNone tk72 tk104 rfl rfl rfl
def tr24 : Tree Entry := .node none tr40 tr56
theorem tk24 : AllT (Entry.ok CC LL) tr24 24 16 := AllT.mk allNone tk40 tk56 rfl rfl rfl
def tr368 : Tree Entry := .node (some en368) .leaf .leaf
theorem tk368 : AllT (Entry.ok CC LL) tr368 368 256 := AllT.mk (allSome k368) (AllT.leaf 624 512) (AllT.leaf 880 512) rfl rfl rfl
def tr240 : Tree Entry := .node (some en240) tr368 .leaf
theorem tk240 : AllT (Entry.ok CC LL) tr240 240 128 := AllT.mk (allSome k240) tk368 (AllT.leaf 496 256) rfl rfl rfl
def tr304 : Tree Entry := .node (some en304) .leaf .leaf
theorem tk304 : AllT (Entry.ok CC LL) tr304 304 256 := AllT.mk (allSome k304) (AllT.leaf 560 512) (AllT.leaf 816 512) rfl rfl rfl
def tr176 : Tree Entry := .node (some en176) tr304 .leaf
theorem tk176 : AllT (Entry.ok CC LL) tr176 176 128 := AllT.mk (allSome k176) tk304 (AllT.leaf 432 256) rfl rfl rfl
def tr112 : Tree Entry := .node (some en112) tr176 tr240
theorem tk112 : AllT (Entry.ok CC LL) tr112 112 64 := AllT.mk (allSome k112) tk176 tk240 rfl rfl rfl
def tr336 : Tree Entry := .node (some en336) .leaf .leaf
theorem tk336 : AllT (Entry.ok CC LL) tr336 336 256 := AllT.mk (allSome k336) (AllT.leaf 592 512) (AllT.leaf 848 512) rfl rfl rfl
def tr208 : Tree Entry := .node (some en208) tr336 .leaf
theorem tk208 : AllT (Entry.ok CC LL) tr208 208 128 := AllT.mk (allSome k208) tk336 (AllT.leaf 464 256) rfl rfl rfl
def tr400 : Tree Entry := .node none .leaf .leaf
theorem tk400 : AllT (Entry.ok CC LL) tr400 400 256 := AllT.mk allNone (AllT.leaf 656 512) (AllT.leaf 912 512) rfl rfl rfl
def tr272 : Tree Entry := .node (some en272) .leaf .leaf
theorem tk272 : AllT (Entry.ok CC LL) tr272 272 256 := AllT.mk (allSome k272) (AllT.leaf 528 512) (AllT.leaf 784 512) rfl rfl rfl
def tr144 : Tree Entry := .node none tr272 tr400
theorem tk144 : AllT (Entry.ok CC LL) tr144 144 128 := AllT.mk allNone tk272 tk400 rfl rfl rfl
def tr80 : Tree Entry := .node none tr144 tr208
theorem tk80 : AllT (Entry.ok CC LL) tr80 80 64 := AllT.mk allNone tk144 tk208 rfl rfl rfl
def tr48 : Tree Entry := .node (some en48) tr80 tr112
theorem tk48 : AllT (Entry.ok CC LL) tr48 48 32 := AllT.mk (allSome k48) tk80 tk112 rfl rfl rfl
def tr352 : Tree Entry := .node (some en352) .leaf .leaf
theorem tk352 : AllT (Entry.ok CC LL) tr352 352 256 := AllT.mk (allSome k352) (AllT.leaf 608 512) (AllT.leaf 864 512) rfl rfl rfl
def tr224 : Tree Entry := .node none tr352 .leaf
theorem tk224 : AllT (Entry.ok CC LL) tr224 224 128 := AllT.mk allNone tk352 (AllT.leaf 480 256) rfl rfl rfl
def tr416 : Tree Entry := .node none .leaf .leaf
theorem tk416 : AllT (Entry.ok CC LL) tr416 416 256 := AllT.mk allNone (AllT.leaf 672 512) (AllT.leaf 928 512) rfl rfl rfl
def tr288 : Tree Entry := .node none .leaf .leaf
theorem tk288 : AllT (Entry.ok CC LL) tr288 288 256 := AllT.mk allNone (AllT.leaf 544 512) (AllT.leaf 800 512) rfl rfl rfl
def tr160 : Tree Entry := .node (some en160) tr288 tr416
theorem tk160 : AllT (Entry.ok CC LL) tr160 160 128 := AllT.mk (allSome k160) tk288 tk416 rfl rfl rfl
def tr96 : Tree Entry := .node (some en96) tr160 tr224
theorem tk96 : AllT (Entry.ok CC LL) tr96 96 64 := AllT.mk (allSome k96) tk160 tk224 rfl rfl rfl
def tr320 : Tree Entry := .node (some en320) .leaf .leaf
theorem tk320 : AllT (Entry.ok CC LL) tr320 320 256 := AllT.mk (allSome k320) (AllT.leaf 576 512) (AllT.leaf 832 512) rfl rfl rfl
def tr192 : Tree Entry := .node none tr320 .leaf
theorem tk192 : AllT (Entry.ok CC LL) tr192 192 128 := AllT.mk allNone tk320 (AllT.leaf 448 256) rfl rfl rfl
def tr384 : Tree Entry := .node (some en384) .leaf .leaf
theorem tk384 : AllT (Entry.ok CC LL) tr384 384 256 := AllT.mk (allSome k384) (AllT.leaf 640 512) (AllT.leaf 896 512) rfl rfl rfl
def tr256 : Tree Entry := .node none .leaf .leaf
theorem tk256 : AllT (Entry.ok CC LL) tr256 256 256 := AllT.mk allNone (AllT.leaf 512 512) (AllT.leaf 768 512) rfl rfl rfl
def tr128 : Tree Entry := .node none tr256 tr384
theorem tk128 : AllT (Entry.ok CC LL) tr128 128 128 := AllT.mk allNone tk256 tk384 rfl rfl rfl
def tr64 : Tree Entry := .node none tr128 tr192
theorem tk64 : AllT (Entry.ok CC LL) tr64 64 64 := AllT.mk allNone tk128 tk192 rfl rfl rfl
def tr32 : Tree Entry := .node none tr64 tr96
theorem tk32 : AllT (Entry.ok CC LL) tr32 32 32 := AllT.mk allNone tk64 tk96 rfl rfl rfl
def tr16 : Tree Entry := .node (some en16) tr32 tr48
theorem tk16 : AllT (Entry.ok CC LL) tr16 16 16 := AllT.mk (allSome k16) tk32 tk48 rfl rfl rfl
def tr8 : Tree Entry := .node none tr16 tr24
theorem tk8 : AllT (Entry.ok CC LL) tr8 8 8 := AllT.mk allNone tk16 tk24 rfl rfl rfl
def tr4 : Tree Entry := .node (some en4) tr8 tr12
theorem tk4 : AllT (Entry.ok CC LL) tr4 4 4 := AllT.mk (allSome k4) tk8 tk12 rfl rfl rfl
def tr2 : Tree Entry := .node none tr4 tr6
theorem tk2 : AllT (Entry.ok CC LL) tr2 2 2 := AllT.mk allNone tk4 tk6 rfl rfl rfl
def tr381 : Tree Entry := .node (some en381) .leaf .leaf
theorem tk381 : AllT (Entry.ok CC LL) tr381 381 256 := AllT.mk (allSome k381) (AllT.leaf 637 512) (AllT.leaf 893 512) rfl rfl rfl
def tr253 : Tree Entry := .node none tr381 .leaf
theorem tk253 : AllT (Entry.ok CC LL) tr253 253 128 := AllT.mk allNone tk381 (AllT.leaf 509 256) rfl rfl rfl
def tr317 : Tree Entry := .node (some en317) .leaf .leaf
theorem tk317 : AllT (Entry.ok CC LL) tr317 317 256 := AllT.mk (allSome k317) (AllT.leaf 573 512) (AllT.leaf 829 512) rfl rfl rfl
def tr189 : Tree Entry := .node (some en189) tr317 .leaf
theorem tk189 : AllT (Entry.ok CC LL) tr189 189 128 := AllT.mk (allSome k189) tk317 (AllT.leaf 445 256) rfl rfl rfl
def tr125 : Tree Entry := .node (some en125) tr189 tr253
theorem tk125 : AllT (Entry.ok CC LL) tr125 125 64 := AllT.mk (allSome k125) tk189 tk253 rfl rfl rfl
def tr349 : Tree Entry := .node (some en349) .leaf .leaf
theorem tk349 : AllT (Entry.ok CC LL) tr349 349 256 := AllT.mk (allSome k349) (AllT.leaf 605 512) (AllT.leaf 861 512) rfl rfl rfl
def tr221 : Tree Entry := .node none tr349 .leaf
theorem tk221 : AllT (Entry.ok CC LL) tr221 221 128 := AllT.mk allNone tk349 (AllT.leaf 477 256) rfl rfl rfl
def tr413 : Tree Entry := .node none .leaf .leaf
theorem tk413 : AllT (Entry.ok CC LL) tr413 413 256 := AllT.mk allNone (AllT.leaf 669 512) (AllT.leaf 925 512) rfl rfl rfl
def tr285 : Tree Entry := .node none .leaf .leaf
theorem tk285 : AllT (Entry.ok CC LL) tr285 285 256 := AllT.mk allNone (AllT.leaf 541 512) (AllT.leaf 797 512) rfl rfl rfl
def tr157 : Tree Entry := .node (some en157) tr285 tr413
theorem tk157 : AllT (Entry.ok CC LL) tr157 157 128 := AllT.mk (allSome k157) tk285 tk413 rfl rfl rfl
def tr93 : Tree Entry := .node none tr157 tr221
theorem tk93 : AllT (Entry.ok CC LL) tr93 93 64 := AllT.mk allNone tk157 tk221 rfl rfl rfl
def tr61 : Tree Entry := .node (some en61) tr93 tr125
theorem tk61 : AllT (Entry.ok CC LL) tr61 61 32 := AllT.mk (allSome k61) tk93 tk125 rfl rfl rfl
def tr365 : Tree Entry := .node (some en365) .leaf .leaf
theorem tk365 : AllT (Entry.ok CC LL) tr365 365 256 := AllT.mk (allSome k365) (AllT.leaf 621 512) (AllT.leaf 877 512) rfl rfl rfl
def tr237 : Tree Entry := .node (some en237) tr365 .leaf
theorem tk237 : AllT (Entry.ok CC LL) tr237 237 128 := AllT.mk (allSome k237) tk365 (AllT.leaf 493 256) rfl rfl rfl
def tr429 : Tree Entry := .node none .leaf .leaf
theorem tk429 : AllT (Entry.ok CC LL) tr429 429 256 := AllT.mk allNone (AllT.leaf 685 512) (AllT.leaf 941 512) rfl rfl rfl
def tr301 : Tree Entry := .node (some en301) .leaf .leaf
theorem tk301 : AllT (Entry.ok CC LL) tr301 301 256 := AllT.mk (allSome k301) (AllT.leaf 557 512) (AllT.leaf 813 512) rfl rfl rfl
def tr173 : Tree Entry := .node (some en173) tr301 tr429
theorem tk173 : AllT (Entry.ok CC LL) tr173 173 128 := AllT.mk (allSome k173) tk301 tk429 rfl rfl rfl
def tr109 : Tree Entry := .node (some en109) tr173 tr237
theorem tk109 : AllT (Entry.ok CC LL) tr109 109 64 := AllT.mk (allSome k109) tk173 tk237 rfl rfl rfl
def tr333 : Tree Entry := .node (some en333) .leaf .leaf
theorem tk333 : AllT (Entry.ok CC LL) tr333 333 256 := AllT.mk (allSome k333) (AllT.leaf 589 512) (AllT.leaf 845 512) rfl rfl rfl
def tr205 : Tree Entry := .node none tr333 .leaf
theorem tk205 : AllT (Entry.ok CC LL) tr205 205 128 := AllT.mk allNone tk333 (AllT.leaf 461 256) rfl rfl rfl
def tr397 : Tree Entry := .node none .leaf .leaf
theorem tk397 : AllT (Entry.ok CC LL) tr397 397 256 := AllT.mk allNone (AllT.leaf 653 512) (AllT.leaf 909 512) rfl rfl rfl
def tr269 : Tree Entry := .node (some en269) .leaf .leaf
theorem tk269 : AllT (Entry.ok CC LL) tr269 269 256 := AllT.mk (allSome k269) (AllT.leaf 525 512) (AllT.leaf 781 512) rfl rfl rfl
def tr141 : Tree Entry := .node (some en141) tr269 tr397
theorem tk141 : AllT (Entry.ok CC LL) tr141 141 128 := AllT.mk (allSome k141) tk269 tk397 rfl rfl rfl
def tr77 : Tree Entry := .node none tr141 tr205
theorem tk77 : AllT (Entry.ok CC LL) tr77 77 64 := AllT.mk allNone tk141 tk205 rfl rfl rfl
def tr45 : Tree Entry := .node none tr77 tr109
theorem tk45 : AllT (Entry.ok CC LL) tr45 45 32 := AllT.mk allNone tk77 tk109 rfl rfl rfl
def tr29 : Tree Entry := .node (some en29) tr45 tr61
theorem tk29 : AllT (Entry.ok CC LL) tr29 29 16 := AllT.mk (allSome k29) tk45 tk61 rfl rfl rfl
def tr373 : Tree Entry := .node none .leaf .leaf
theorem tk373 : AllT (Entry.ok CC LL) tr373 373 256 := AllT.mk allNone (AllT.leaf 629 512) (AllT.leaf 885 512) rfl rfl rfl
def tr245 : Tree Entry := .node (some en245) tr373 .leaf
theorem tk245 : AllT (Entry.ok CC LL) tr245 245 128 := AllT.mk (allSome k245) tk373 (AllT.leaf 501 256) rfl rfl rfl
def tr309 : Tree Entry := .node none .leaf .leaf
theorem tk309 : AllT (Entry.ok CC LL) tr309 309 256 := AllT.mk allNone (AllT.leaf 565 512) (AllT.leaf 821 512) rfl rfl rfl
def tr181 : Tree Entry := .node (some en181) tr309 .leaf
theorem tk181 : AllT (Entry.ok CC LL) tr181 181 128 := AllT.mk (allSome k181) tk309 (AllT.leaf 437 256) rfl rfl rfl
def tr117 : Tree Entry := .node none tr181 tr245
theorem tk117 : AllT (Entry.ok CC LL) tr117 117 64 := AllT.mk allNone tk181 tk245 rfl rfl rfl
def tr341 : Tree Entry := .node (some en341) .leaf .leaf
theorem tk341 : AllT (Entry.ok CC LL) tr341 341 256 := AllT.mk (allSome k341) (AllT.leaf 597 512) (AllT.leaf 853 512) rfl rfl rfl
def tr213 : Tree Entry := .node none tr341 .leaf
theorem tk213 : AllT (Entry.ok CC LL) tr213 213 128 := AllT.mk allNone tk341 (AllT.leaf 469 256) rfl rfl rfl
def tr405 : Tree Entry := .node none .leaf .leaf
theorem tk405 : AllT (Entry.ok CC LL) tr405 405 256 := AllT.mk allNone (AllT.leaf 661 512) (AllT.leaf 917 512) rfl rfl rfl
def tr277 : Tree Entry := .node none .leaf .leaf
theorem tk277 : AllT (Entry.ok CC LL) tr277 277 256 := AllT.mk allNone (AllT.leaf 533 512) (AllT.leaf 789 512) rfl rfl rfl
def tr149 : Tree Entry := .node none tr277 tr405
theorem tk149 : AllT (Entry.ok CC LL) tr149 149 128 := AllT.mk allNone tk277 tk405 rfl rfl rfl
def tr85 : Tree Entry := .node none tr149 tr213
theorem tk85 : AllT (Entry.ok CC LL) tr85 85 64 := AllT.mk allNone tk149 tk213 rfl rfl rfl
def tr53 : Tree Entry := .node (some en53) tr85 tr117
theorem tk53 : AllT (Entry.ok CC LL) tr53 53 32 := AllT.mk (allSome k53) tk85 tk117 rfl rfl rfl
def tr357 : Tree Entry := .node none .leaf .leaf
theorem tk357 : AllT (Entry.ok CC LL) tr357 357 256 := AllT.mk allNone (AllT.leaf 613 512) (AllT.leaf 869 512) rfl rfl rfl
def tr229 : Tree Entry := .node (some en229) tr357 .leaf
theorem tk229 : AllT (Entry.ok CC LL) tr229 229 128 := AllT.mk (allSome k229) tk357 (AllT.leaf 485 256) rfl rfl rfl
def tr421 : Tree Entry := .node none .leaf .leaf
theorem tk421 : AllT (Entry.ok CC LL) tr421 421 256 := AllT.mk allNone (AllT.leaf 677 512) (AllT.leaf 933 512) rfl rfl rfl
def tr293 : Tree Entry := .node none .leaf .leaf
theorem tk293 : AllT (Entry.ok CC LL) tr293 293 256 := AllT.mk allNone (AllT.leaf 549 512) (AllT.leaf 805 512) rfl rfl rfl
def tr165 : Tree Entry := .node (some en165) tr293 tr421
theorem tk165 : AllT (Entry.ok CC LL) tr165 165 128 := AllT.mk (allSome k165) tk293 tk421 rfl rfl rfl
def tr101 : Tree Entry := .node (some en101) tr165 tr229
theorem tk101 : AllT (Entry.ok CC LL) tr101 101 64 := AllT.mk (allSome k101) tk165 tk229 rfl rfl rfl
def tr325 : Tree Entry := .node none .leaf .leaf
theorem tk325 : AllT (Entry.ok CC LL) tr325 325 256 := AllT.mk allNone (AllT.leaf 581 512) (AllT.leaf 837 512) rfl rfl rfl
def tr197 : Tree Entry := .node (some en197) tr325 .leaf
theorem tk197 : AllT (Entry.ok CC LL) tr197 197 128 := AllT.mk (allSome k197) tk325 (AllT.leaf 453 256) rfl rfl rfl
def tr389 : Tree Entry := .node none .leaf .leaf
theorem tk389 : AllT (Entry.ok CC LL) tr389 389 256 := AllT.mk allNone (AllT.leaf 645 512) (AllT.leaf 901 512) rfl rfl rfl
def tr261 : Tree Entry := .node (some en261) .leaf .leaf
theorem tk261 : AllT (Entry.ok CC LL) tr261 261 256 := AllT.mk (allSome k261) (AllT.leaf 517 512) (AllT.leaf 773 512) rfl rfl rfl
def tr133 : Tree Entry := .node (some en133) tr261 tr389
theorem tk133 : AllT (Entry.ok CC LL) tr133 133 128 := AllT.mk (allSome k133) tk261 tk389 rfl rfl rfl
def tr69 : Tree Entry := .node (some en69) tr133 tr197
theorem tk69 : AllT (Entry.ok CC LL) tr69 69 64 := AllT.mk (allSome k69) tk133 tk197 rfl rfl rfl
def tr37 : Tree Entry := .node none tr69 tr101
theorem tk37 : AllT (Entry.ok CC LL) tr37 37 32 := AllT.mk allNone tk69 tk101 rfl rfl rfl
def tr21 : Tree Entry := .node none tr37 tr53
theorem tk21 : AllT (Entry.ok CC LL) tr21 21 16 := AllT.mk allNone tk37 tk53 rfl rfl rfl
def tr13 : Tree Entry := .node none tr21 tr29
theorem tk13 : AllT (Entry.ok CC LL) tr13 13 8 := AllT.mk allNone tk21 tk29 rfl rfl rfl
def tr377 : Tree Entry := .node (some en377) .leaf .leaf
theorem tk377 : AllT (Entry.ok CC LL) tr377 377 256 := AllT.mk (allSome k377) (AllT.leaf 633 512) (AllT.leaf 889 512) rfl rfl rfl
def tr249 : Tree Entry := .node (some en249) tr377 .leaf
theorem tk249 : AllT (Entry.ok CC LL) tr249 249 128 := AllT.mk (allSome k249) tk377 (AllT.leaf 505 256) rfl rfl rfl
def tr313 : Tree Entry := .node (some en313) .leaf .leaf
theorem tk313 : AllT (Entry.ok CC LL) tr313 313 256 := AllT.mk (allSome k313) (AllT.leaf 569 512) (AllT.leaf 825 512) rfl rfl rfl
def tr185 : Tree Entry := .node (some en185) tr313 .leaf
theorem tk185 : AllT (Entry.ok CC LL) tr185 185 128 := AllT.mk (allSome k185) tk313 (AllT.leaf 441 256) rfl rfl rfl
def tr121 : Tree Entry := .node (some en121) tr185 tr249
theorem tk121 : AllT (Entry.ok CC LL) tr121 121 64 := AllT.mk (allSome k121) tk185 tk249 rfl rfl rfl
def tr345 : Tree Entry := .node none .leaf .leaf
theorem tk345 : AllT (Entry.ok CC LL) tr345 345 256 := AllT.mk allNone (AllT.leaf 601 512) (AllT.leaf 857 512) rfl rfl rfl
def tr217 : Tree Entry := .node none tr345 .leaf
theorem tk217 : AllT (Entry.ok CC LL) tr217 217 128 := AllT.mk allNone tk345 (AllT.leaf 473 256) rfl rfl rfl
def tr409 : Tree Entry := .node none .leaf .leaf
theorem tk409 : AllT (Entry.ok CC LL) tr409 409 256 := AllT.mk allNone (AllT.leaf 665 512) (AllT.leaf 921 512) rfl rfl rfl
def tr281 : Tree Entry := .node none .leaf .leaf
theorem tk281 : AllT (Entry.ok CC LL) tr281 281 256 := AllT.mk allNone (AllT.leaf 537 512) (AllT.leaf 793 512) rfl rfl rfl
def tr153 : Tree Entry := .node none tr281 tr409
theorem tk153 : AllT (Entry.ok CC LL) tr153 153 128 := AllT.mk allNone tk281 tk409 rfl rfl rfl
def tr89 : Tree Entry := .node none tr153 tr217
theorem tk89 : AllT (Entry.ok CC LL) tr89 89 64 := AllT.mk allNone tk153 tk217 rfl rfl rfl
def tr57 : Tree Entry := .node none tr89 tr121
theorem tk57 : AllT (Entry.ok CC LL) tr57 57 32 := AllT.mk allNone tk89 tk121 rfl rfl rfl
def tr361 : Tree Entry := .node (some en361) .leaf .leaf
theorem tk361 : AllT (Entry.ok CC LL) tr361 361 256 := AllT.mk (allSome k361) (AllT.leaf 617 512) (AllT.leaf 873 512) rfl rfl rfl
def tr233 : Tree Entry := .node (some en233) tr361 .leaf
theorem tk233 : AllT (Entry.ok CC LL) tr233 233 128 := AllT.mk (allSome k233) tk361 (AllT.leaf 489 256) rfl rfl rfl
def tr425 : Tree Entry := .node none .leaf .leaf
theorem tk425 : AllT (Entry.ok CC LL) tr425 425 256 := AllT.mk allNone (AllT.leaf 681 512) (AllT.leaf 937 512) rfl rfl rfl
def tr297 : Tree Entry := .node none .leaf .leaf
theorem tk297 : AllT (Entry.ok CC LL) tr297 297 256 := AllT.mk allNone (AllT.leaf 553 512) (AllT.leaf 809 512) rfl rfl rfl
def tr169 : Tree Entry := .node (some en169) tr297 tr425
theorem tk169 : AllT (Entry.ok CC LL) tr169 169 128 := AllT.mk (allSome k169) tk297 tk425 rfl rfl rfl
def tr105 : Tree Entry := .node (some en105) tr169 tr233
theorem tk105 : AllT (Entry.ok CC LL) tr105 105 64 := AllT.mk (allSome k105) tk169 tk233 rfl rfl rfl
def tr329 : Tree Entry := .node (some en329) .leaf .leaf
theorem tk329 : AllT (Entry.ok CC LL) tr329 329 256 := AllT.mk (allSome k329) (AllT.leaf 585 512) (AllT.leaf 841 512) rfl rfl rfl
def tr201 : Tree Entry := .node (some en201) tr329 .leaf
theorem tk201 : AllT (Entry.ok CC LL) tr201 201 128 := AllT.mk (allSome k201) tk329 (AllT.leaf 457 256) rfl rfl rfl
def tr393 : Tree Entry := .node none .leaf .leaf
theorem tk393 : AllT (Entry.ok CC LL) tr393 393 256 := AllT.mk allNone (AllT.leaf 649 512) (AllT.leaf 905 512) rfl rfl rfl
def tr265 : Tree Entry := .node (some en265) .leaf .leaf
theorem tk265 : AllT (Entry.ok CC LL) tr265 265 256 := AllT.mk (allSome k265) (AllT.leaf 521 512) (AllT.leaf 777 512) rfl rfl rfl
def tr137 : Tree Entry := .node (some en137) tr265 tr393
theorem tk137 : AllT (Entry.ok CC LL) tr137 137 128 := AllT.mk (allSome k137) tk265 tk393 rfl rfl rfl
def tr73 : Tree Entry := .node none tr137 tr201
theorem tk73 : AllT (Entry.ok CC LL) tr73 73 64 := AllT.mk allNone tk137 tk201 rfl rfl rfl
def tr41 : Tree Entry := .node none tr73 tr105
theorem tk41 : AllT (Entry.ok CC LL) tr41 41 32 := AllT.mk allNone tk73 tk105 rfl rfl rfl
def tr25 : Tree Entry := .node (some en25) tr41 tr57
theorem tk25 : AllT (Entry.ok CC LL) tr25 25 16 := AllT.mk (allSome k25) tk41 tk57 rfl rfl rfl
def tr369 : Tree Entry := .node none .leaf .leaf
theorem tk369 : AllT (Entry.ok CC LL) tr369 369 256 := AllT.mk allNone (AllT.leaf 625 512) (AllT.leaf 881 512) rfl rfl rfl
def tr241 : Tree Entry := .node (some en241) tr369 .leaf
theorem tk241 : AllT (Entry.ok CC LL) tr241 241 128 := AllT.mk (allSome k241) tk369 (AllT.leaf 497 256) rfl rfl rfl
def tr305 : Tree Entry := .node (some en305) .leaf .leaf
theorem tk305 : AllT (Entry.ok CC LL) tr305 305 256 := AllT.mk (allSome k305) (AllT.leaf 561 512) (AllT.leaf 817 512) rfl rfl rfl
def tr177 : Tree Entry := .node (some en177) tr305 .leaf
theorem tk177 : AllT (Entry.ok CC LL) tr177 177 128 := AllT.mk (allSome k177) tk305 (AllT.leaf 433 256) rfl rfl rfl
def tr113 : Tree Entry := .node (some en113) tr177 tr241
theorem tk113 : AllT (Entry.ok CC LL) tr113 113 64 := AllT.mk (allSome k113) tk177 tk241 rfl rfl rfl
def tr337 : Tree Entry := .node (some en337) .leaf .leaf
theorem tk337 : AllT (Entry.ok CC LL) tr337 337 256 := AllT.mk (allSome k337) (AllT.leaf 593 512) (AllT.leaf 849 512) rfl rfl rfl
def tr209 : Tree Entry := .node (some en209) tr337 .leaf
theorem tk209 : AllT (Entry.ok CC LL) tr209 209 128 := AllT.mk (allSome k209) tk337 (AllT.leaf 465 256) rfl rfl rfl
def tr401 : Tree Entry := .node none .leaf .leaf
theorem tk401 : AllT (Entry.ok CC LL) tr401 401 256 := AllT.mk allNone (AllT.leaf 657 512) (AllT.leaf 913 512) rfl rfl rfl
def tr273 : Tree Entry := .node (some en273) .leaf .leaf
theorem tk273 : AllT (Entry.ok CC LL) tr273 273 256 := AllT.mk (allSome k273) (AllT.leaf 529 512) (AllT.leaf 785 512) rfl rfl rfl
def tr145 : Tree Entry := .node none tr273 tr401
theorem tk145 : AllT (Entry.ok CC LL) tr145 145 128 := AllT.mk allNone tk273 tk401 rfl rfl rfl
def tr81 : Tree Entry := .node none tr145 tr209
theorem tk81 : AllT (Entry.ok CC LL) tr81 81 64 := AllT.mk allNone tk145 tk209 rfl rfl rfl
def tr49 : Tree Entry := .node (some en49) tr81 tr113
theorem tk49 : AllT (Entry.ok CC LL) tr49 49 32 := AllT.mk (allSome k49) tk81 tk113 rfl rfl rfl
def tr353 : Tree Entry := .node (some en353) .leaf .leaf
theorem tk353 : AllT (Entry.ok CC LL) tr353 353 256 := AllT.mk (allSome k353) (AllT.leaf 609 512) (AllT.leaf 865 512) rfl rfl rfl
def tr225 : Tree Entry := .node (some en225) tr353 .leaf
theorem tk225 : AllT (Entry.ok CC LL) tr225 225 128 := AllT.mk (allSome k225) tk353 (AllT.leaf 481 256) rfl rfl rfl
def tr417 : Tree Entry := .node none .leaf .leaf
theorem tk417 : AllT (Entry.ok CC LL) tr417 417 256 := AllT.mk allNone (AllT.leaf 673 512) (AllT.leaf 929 512) rfl rfl rfl
def tr289 : Tree Entry := .node none .leaf .leaf
theorem tk289 : AllT (Entry.ok CC LL) tr289 289 256 := AllT.mk allNone (AllT.leaf 545 512) (AllT.leaf 801 512) rfl rfl rfl
def tr161 : Tree Entry := .node (some en161) tr289 tr417
theorem tk161 : AllT (Entry.ok CC LL) tr161 161 128 := AllT.mk (allSome k161) tk289 tk417 rfl rfl rfl
def tr97 : Tree Entry := .node (some en97) tr161 tr225
theorem tk97 : AllT (Entry.ok CC LL) tr97 97 64 := AllT.mk (allSome k97) tk161 tk225 rfl rfl rfl
def tr321 : Tree Entry := .node (some en321) .leaf .leaf
theorem tk321 : AllT (Entry.ok CC LL) tr321 321 256 := AllT.mk (allSome k321) (AllT.leaf 577 512) (AllT.leaf 833 512) rfl rfl rfl
def tr193 : Tree Entry := .node none tr321 .leaf
theorem tk193 : AllT (Entry.ok CC LL) tr193 193 128 := AllT.mk allNone tk321 (AllT.leaf 449 256) rfl rfl rfl
def tr385 : Tree Entry := .node (some en385) .leaf .leaf
theorem tk385 : AllT (Entry.ok CC LL) tr385 385 256 := AllT.mk (allSome k385) (AllT.leaf 641 512) (AllT.leaf 897 512) rfl rfl rfl
def tr257 : Tree Entry := .node (some en257) .leaf .leaf
theorem tk257 : AllT (Entry.ok CC LL) tr257 257 256 := AllT.mk (allSome k257) (AllT.leaf 513 512) (AllT.leaf 769 512) rfl rfl rfl
def tr129 : Tree Entry := .node none tr257 tr385
theorem tk129 : AllT (Entry.ok CC LL) tr129 129 128 := AllT.mk allNone tk257 tk385 rfl rfl rfl
def tr65 : Tree Entry := .node none tr129 tr193
theorem tk65 : AllT (Entry.ok CC LL) tr65 65 64 := AllT.mk allNone tk129 tk193 rfl rfl rfl
def tr33 : Tree Entry := .node none tr65 tr97
theorem tk33 : AllT (Entry.ok CC LL) tr33 33 32 := AllT.mk allNone tk65 tk97 rfl rfl rfl
def tr17 : Tree Entry := .node (some en17) tr33 tr49
theorem tk17 : AllT (Entry.ok CC LL) tr17 17 16 := AllT.mk (allSome k17) tk33 tk49 rfl rfl rfl
def tr9 : Tree Entry := .node none tr17 tr25
theorem tk9 : AllT (Entry.ok CC LL) tr9 9 8 := AllT.mk allNone tk17 tk25 rfl rfl rfl
def tr5 : Tree Entry := .node none tr9 tr13
theorem tk5 : AllT (Entry.ok CC LL) tr5 5 4 := AllT.mk allNone tk9 tk13 rfl rfl rfl
def tr379 : Tree Entry := .node (some en379) .leaf .leaf
theorem tk379 : AllT (Entry.ok CC LL) tr379 379 256 := AllT.mk (allSome k379) (AllT.leaf 635 512) (AllT.leaf 891 512) rfl rfl rfl
def tr251 : Tree Entry := .node (some en251) tr379 .leaf
theorem tk251 : AllT (Entry.ok CC LL) tr251 251 128 := AllT.mk (allSome k251) tk379 (AllT.leaf 507 256) rfl rfl rfl
def tr315 : Tree Entry := .node none .leaf .leaf
theorem tk315 : AllT (Entry.ok CC LL) tr315 315 256 := AllT.mk allNone (AllT.leaf 571 512) (AllT.leaf 827 512) rfl rfl rfl
def tr187 : Tree Entry := .node (some en187) tr315 .leaf
theorem tk187 : AllT (Entry.ok CC LL) tr187 187 128 := AllT.mk (allSome k187) tk315 (AllT.leaf 443 256) rfl rfl rfl
def tr123 : Tree Entry := .node (some en123) tr187 tr251
theorem tk123 : AllT (Entry.ok CC LL) tr123 123 64 := AllT.mk (allSome k123) tk187 tk251 rfl rfl rfl
def tr347 : Tree Entry := .node none .leaf .leaf
theorem tk347 : AllT (Entry.ok CC LL) tr347 347 256 := AllT.mk allNone (AllT.leaf 603 512) (AllT.leaf 859 512) rfl rfl rfl
def tr219 : Tree Entry := .node none tr347 .leaf
theorem tk219 : AllT (Entry.ok CC LL) tr219 219 128 := AllT.mk allNone tk347 (AllT.leaf 475 256) rfl rfl rfl
def tr411 : Tree Entry := .node none .leaf .leaf
theorem tk411 : AllT (Entry.ok CC LL) tr411 411 256 := AllT.mk allNone (AllT.leaf 667 512) (AllT.leaf 923 512) rfl rfl rfl
def tr283 : Tree Entry := .node none .leaf .leaf
theorem tk283 : AllT (Entry.ok CC LL) tr283 283 256 := AllT.mk allNone (AllT.leaf 539 512) (AllT.leaf 795 512) rfl rfl rfl
def tr155 : Tree Entry := .node none tr283 tr411
theorem tk155 : AllT (Entry.ok CC LL) tr155 155 128 := AllT.mk allNone tk283 tk411 rfl rfl rfl
def tr91 : Tree Entry := .node none tr155 tr219
theorem tk91 : AllT (Entry.ok CC LL) tr91 91 64 := AllT.mk allNone tk155 tk219 rfl rfl rfl
def tr59 : Tree Entry := .node (some en59) tr91 tr123
theorem tk59 : AllT (Entry.ok CC LL) tr59 59 32 := AllT.mk (allSome k59) tk91 tk123 rfl rfl rfl
def tr363 : Tree Entry := .node (some en363) .leaf .leaf
theorem tk363 : AllT (Entry.ok CC LL) tr363 363 256 := AllT.mk (allSome k363) (AllT.leaf 619 512) (AllT.leaf 875 512) rfl rfl rfl
def tr235 : Tree Entry := .node (some en235) tr363 .leaf
theorem tk235 : AllT (Entry.ok CC LL) tr235 235 128 := AllT.mk (allSome k235) tk363 (AllT.leaf 491 256) rfl rfl rfl
def tr427 : Tree Entry := .node none .leaf .leaf
theorem tk427 : AllT (Entry.ok CC LL) tr427 427 256 := AllT.mk allNone (AllT.leaf 683 512) (AllT.leaf 939 512) rfl rfl rfl
def tr299 : Tree Entry := .node (some en299) .leaf .leaf
theorem tk299 : AllT (Entry.ok CC LL) tr299 299 256 := AllT.mk (allSome k299) (AllT.leaf 555 512) (AllT.leaf 811 512) rfl rfl rfl
def tr171 : Tree Entry := .node (some en171) tr299 tr427
theorem tk171 : AllT (Entry.ok CC LL) tr171 171 128 := AllT.mk (allSome k171) tk299 tk427 rfl rfl rfl
def tr107 : Tree Entry := .node (some en107) tr171 tr235
theorem tk107 : AllT (Entry.ok CC LL) tr107 107 64 := AllT.mk (allSome k107) tk171 tk235 rfl rfl rfl
def tr331 : Tree Entry := .node (some en331) .leaf .leaf
theorem tk331 : AllT (Entry.ok CC LL) tr331 331 256 := AllT.mk (allSome k331) (AllT.leaf 587 512) (AllT.leaf 843 512) rfl rfl rfl
def tr203 : Tree Entry := .node (some en203) tr331 .leaf
theorem tk203 : AllT (Entry.ok CC LL) tr203 203 128 := AllT.mk (allSome k203) tk331 (AllT.leaf 459 256) rfl rfl rfl
def tr395 : Tree Entry := .node none .leaf .leaf
theorem tk395 : AllT (Entry.ok CC LL) tr395 395 256 := AllT.mk allNone (AllT.leaf 651 512) (AllT.leaf 907 512) rfl rfl rfl
def tr267 : Tree Entry := .node (some en267) .leaf .leaf
theorem tk267 : AllT (Entry.ok CC LL) tr267 267 256 := AllT.mk (allSome k267) (AllT.leaf 523 512) (AllT.leaf 779 512) rfl rfl rfl
def tr139 : Tree Entry := .node (some en139) tr267 tr395
theorem tk139 : AllT (Entry.ok CC LL) tr139 139 128 := AllT.mk (allSome k139) tk267 tk395 rfl rfl rfl
def tr75 : Tree Entry := .node none tr139 tr203
theorem tk75 : AllT (Entry.ok CC LL) tr75 75 64 := AllT.mk allNone tk139 tk203 rfl rfl rfl
def tr43 : Tree Entry := .node none tr75 tr107
theorem tk43 : AllT (Entry.ok CC LL) tr43 43 32 := AllT.mk allNone tk75 tk107 rfl rfl rfl
def tr27 : Tree Entry := .node none tr43 tr59
theorem tk27 : AllT (Entry.ok CC LL) tr27 27 16 := AllT.mk allNone tk43 tk59 rfl rfl rfl
def tr371 : Tree Entry := .node none .leaf .leaf
theorem tk371 : AllT (Entry.ok CC LL) tr371 371 256 := AllT.mk allNone (AllT.leaf 627 512) (AllT.leaf 883 512) rfl rfl rfl
def tr243 : Tree Entry := .node none tr371 .leaf
theorem tk243 : AllT (Entry.ok CC LL) tr243 243 128 := AllT.mk allNone tk371 (AllT.leaf 499 256) rfl rfl rfl
def tr307 : Tree Entry := .node none .leaf .leaf
theorem tk307 : AllT (Entry.ok CC LL) tr307 307 256 := AllT.mk allNone (AllT.leaf 563 512) (AllT.leaf 819 512) rfl rfl rfl
def tr179 : Tree Entry := .node none tr307 .leaf
theorem tk179 : AllT (Entry.ok CC LL) tr179 179 128 := AllT.mk allNone tk307 (AllT.leaf 435 256) rfl rfl rfl
def tr115 : Tree Entry := .node (some en115) tr179 tr243
theorem tk115 : AllT (Entry.ok CC LL) tr115 115 64 := AllT.mk (allSome k115) tk179 tk243 rfl rfl rfl
def tr339 : Tree Entry := .node (some en339) .leaf .leaf
theorem tk339 : AllT (Entry.ok CC LL) tr339 339 256 := AllT.mk (allSome k339) (AllT.leaf 595 512) (AllT.leaf 851 512) rfl rfl rfl
def tr211 : Tree Entry := .node none tr339 .leaf
theorem tk211 : AllT (Entry.ok CC LL) tr211 211 128 := AllT.mk allNone tk339 (AllT.leaf 467 256) rfl rfl rfl
def tr403 : Tree Entry := .node none .leaf .leaf
theorem tk403 : AllT (Entry.ok CC LL) tr403 403 256 := AllT.mk allNone (AllT.leaf 659 512) (AllT.leaf 915 512) rfl rfl rfl
def tr275 : Tree Entry := .node none .leaf .leaf
theorem tk275 : AllT (Entry.ok CC LL) tr275 275 256 := AllT.mk allNone (AllT.leaf 531 512) (AllT.leaf 787 512) rfl rfl rfl
def tr147 : Tree Entry := .node none tr275 tr403
theorem tk147 : AllT (Entry.ok CC LL) tr147 147 128 := AllT.mk allNone tk275 tk403 rfl rfl rfl
def tr83 : Tree Entry := .node none tr147 tr211
theorem tk83 : AllT (Entry.ok CC LL) tr83 83 64 := AllT.mk allNone tk147 tk211 rfl rfl rfl
def tr51 : Tree Entry := .node (some en51) tr83 tr115
theorem tk51 : AllT (Entry.ok CC LL) tr51 51 32 := AllT.mk (allSome k51) tk83 tk115 rfl rfl rfl
def tr355 : Tree Entry := .node (some en355) .leaf .leaf
theorem tk355 : AllT (Entry.ok CC LL) tr355 355 256 := AllT.mk (allSome k355) (AllT.leaf 611 512) (AllT.leaf 867 512) rfl rfl rfl
def tr227 : Tree Entry := .node (some en227) tr355 .leaf
theorem tk227 : AllT (Entry.ok CC LL) tr227 227 128 := AllT.mk (allSome k227) tk355 (AllT.leaf 483 256) rfl rfl rfl
def tr419 : Tree Entry := .node none .leaf .leaf
theorem tk419 : AllT (Entry.ok CC LL) tr419 419 256 := AllT.mk allNone (AllT.leaf 675 512) (AllT.leaf 931 512) rfl rfl rfl
def tr291 : Tree Entry := .node none .leaf .leaf
theorem tk291 : AllT (Entry.ok CC LL) tr291 291 256 := AllT.mk allNone (AllT.leaf 547 512) (AllT.leaf 803 512) rfl rfl rfl
def tr163 : Tree Entry := .node (some en163) tr291 tr419
theorem tk163 : AllT (Entry.ok CC LL) tr163 163 128 := AllT.mk (allSome k163) tk291 tk419 rfl rfl rfl
def tr99 : Tree Entry := .node (some en99) tr163 tr227
theorem tk99 : AllT (Entry.ok CC LL) tr99 99 64 := AllT.mk (allSome k99) tk163 tk227 rfl rfl rfl
def tr323 : Tree Entry := .node none .leaf .leaf
theorem tk323 : AllT (Entry.ok CC LL) tr323 323 256 := AllT.mk allNone (AllT.leaf 579 512) (AllT.leaf 835 512) rfl rfl rfl
def tr195 : Tree Entry := .node none tr323 .leaf
theorem tk195 : AllT (Entry.ok CC LL) tr195 195 128 := AllT.mk allNone tk323 (AllT.leaf 451 256) rfl rfl rfl
def tr387 : Tree Entry := .node (some en387) .leaf .leaf
theorem tk387 : AllT (Entry.ok CC LL) tr387 387 256 := AllT.mk (allSome k387) (AllT.leaf 643 512) (AllT.leaf 899 512) rfl rfl rfl
def tr259 : Tree Entry := .node (some en259) .leaf .leaf
theorem tk259 : AllT (Entry.ok CC LL) tr259 259 256 := AllT.mk (allSome k259) (AllT.leaf 515 512) (AllT.leaf 771 512) rfl rfl rfl
def tr131 : Tree Entry := .node none tr259 tr387
theorem tk131 : AllT (Entry.ok CC LL) tr131 131 128 := AllT.mk allNone tk259 tk387 rfl rfl rfl
def tr67 : Tree Entry := .node none tr131 tr195
theorem tk67 : AllT (Entry.ok CC LL) tr67 67 64 := AllT.mk allNone tk131 tk195 rfl rfl rfl
def tr35 : Tree Entry := .node none tr67 tr99
theorem tk35 : AllT (Entry.ok CC LL) tr35 35 32 := AllT.mk allNone tk67 tk99 rfl rfl rfl
def tr19 : Tree Entry := .node (some en19) tr35 tr51
theorem tk19 : AllT (Entry.ok CC LL) tr19 19 16 := AllT.mk (allSome k19) tk35 tk51 rfl rfl rfl
def tr11 : Tree Entry := .node none tr19 tr27
theorem tk11 : AllT (Entry.ok CC LL) tr11 11 8 := AllT.mk allNone tk19 tk27 rfl rfl rfl
def tr375 : Tree Entry := .node (some en375) .leaf .leaf
theorem tk375 : AllT (Entry.ok CC LL) tr375 375 256 := AllT.mk (allSome k375) (AllT.leaf 631 512) (AllT.leaf 887 512) rfl rfl rfl
def tr247 : Tree Entry := .node (some en247) tr375 .leaf
theorem tk247 : AllT (Entry.ok CC LL) tr247 247 128 := AllT.mk (allSome k247) tk375 (AllT.leaf 503 256) rfl rfl rfl
def tr311 : Tree Entry := .node (some en311) .leaf .leaf
theorem tk311 : AllT (Entry.ok CC LL) tr311 311 256 := AllT.mk (allSome k311) (AllT.leaf 567 512) (AllT.leaf 823 512) rfl rfl rfl
def tr183 : Tree Entry := .node (some en183) tr311 .leaf
theorem tk183 : AllT (Entry.ok CC LL) tr183 183 128 := AllT.mk (allSome k183) tk311 (AllT.leaf 439 256) rfl rfl rfl
def tr119 : Tree Entry := .node (some en119) tr183 tr247
theorem tk119 : AllT (Entry.ok CC LL) tr119 119 64 := AllT.mk (allSome k119) tk183 tk247 rfl rfl rfl
def tr343 : Tree Entry := .node none .leaf .leaf
theorem tk343 : AllT (Entry.ok CC LL) tr343 343 256 := AllT.mk allNone (AllT.leaf 599 512) (AllT.leaf 855 512) rfl rfl rfl
def tr215 : Tree Entry := .node none tr343 .leaf
theorem tk215 : AllT (Entry.ok CC LL) tr215 215 128 := AllT.mk allNone tk343 (AllT.leaf 471 256) rfl rfl rfl
def tr407 : Tree Entry := .node none .leaf .leaf
theorem tk407 : AllT (Entry.ok CC LL) tr407 407 256 := AllT.mk allNone (AllT.leaf 663 512) (AllT.leaf 919 512) rfl rfl rfl
def tr279 : Tree Entry := .node none .leaf .leaf
theorem tk279 : AllT (Entry.ok CC LL) tr279 279 256 := AllT.mk allNone (AllT.leaf 535 512) (AllT.leaf 791 512) rfl rfl rfl
def tr151 : Tree Entry := .node none tr279 tr407
theorem tk151 : AllT (Entry.ok CC LL) tr151 151 128 := AllT.mk allNone tk279 tk407 rfl rfl rfl
def tr87 : Tree Entry := .node none tr151 tr215
theorem tk87 : AllT (Entry.ok CC LL) tr87 87 64 := AllT.mk allNone tk151 tk215 rfl rfl rfl
def tr55 : Tree Entry := .node (some en55) tr87 tr119
theorem tk55 : AllT (Entry.ok CC LL) tr55 55 32 := AllT.mk (allSome k55) tk87 tk119 rfl rfl rfl
def tr359 : Tree Entry := .node (some en359) .leaf .leaf
theorem tk359 : AllT (Entry.ok CC LL) tr359 359 256 := AllT.mk (allSome k359) (AllT.leaf 615 512) (AllT.leaf 871 512) rfl rfl rfl
def tr231 : Tree Entry := .node (some en231) tr359 .leaf
theorem tk231 : AllT (Entry.ok CC LL) tr231 231 128 := AllT.mk (allSome k231) tk359 (AllT.leaf 487 256) rfl rfl rfl
def tr423 : Tree Entry := .node none .leaf .leaf
theorem tk423 : AllT (Entry.ok CC LL) tr423 423 256 := AllT.mk allNone (AllT.leaf 679 512) (AllT.leaf 935 512) rfl rfl rfl
def tr295 : Tree Entry := .node (some en295) .leaf .leaf
theorem tk295 : AllT (Entry.ok CC LL) tr295 295 256 := AllT.mk (allSome k295) (AllT.leaf 551 512) (AllT.leaf 807 512) rfl rfl rfl
def tr167 : Tree Entry := .node (some en167) tr295 tr423
theorem tk167 : AllT (Entry.ok CC LL) tr167 167 128 := AllT.mk (allSome k167) tk295 tk423 rfl rfl rfl
def tr103 : Tree Entry := .node (some en103) tr167 tr231
theorem tk103 : AllT (Entry.ok CC LL) tr103 103 64 := AllT.mk (allSome k103) tk167 tk231 rfl rfl rfl
def tr327 : Tree Entry := .node (some en327) .leaf .leaf
theorem tk327 : AllT (Entry.ok CC LL) tr327 327 256 := AllT.mk (allSome k327) (AllT.leaf 583 512) (AllT.leaf 839 512) rfl rfl rfl
def tr199 : Tree Entry := .node (some en199) tr327 .leaf
theorem tk199 : AllT (Entry.ok CC LL) tr199 199 128 := AllT.mk (allSome k199) tk327 (AllT.leaf 455 256) rfl rfl rfl
def tr391 : Tree Entry := .node none .leaf .leaf
theorem tk391 : AllT (Entry.ok CC LL) tr391 391 256 := AllT.mk allNone (AllT.leaf 647 512) (AllT.leaf 903 512) rfl rfl rfl
def tr263 : Tree Entry := .node (some en263) .leaf .leaf
theorem tk263 : AllT (Entry.ok CC LL) tr263 263 256 := AllT.mk (allSome k263) (AllT.leaf 519 512) (AllT.leaf 775 512) rfl rfl rfl
def tr135 : Tree Entry := .node (some en135) tr263 tr391
theorem tk135 : AllT (Entry.ok CC LL) tr135 135 128 := AllT.mk (allSome k135) tk263 tk391 rfl rfl rfl
def tr71 : Tree Entry := .node none tr135 tr199
theorem tk71 : AllT (Entry.ok CC LL) tr71 71 64 := AllT.mk allNone tk135 tk199 rfl rfl rfl
def tr39 : Tree Entry := .node none tr71 tr103
theorem tk39 : AllT (Entry.ok CC LL) tr39 39 32 := AllT.mk allNone tk71 tk103 rfl rfl rfl
def tr23 : Tree Entry := .node (some en23) tr39 tr55
theorem tk23 : AllT (Entry.ok CC LL) tr23 23 16 := AllT.mk (allSome k23) tk39 tk55 rfl rfl rfl
def tr367 : Tree Entry := .node (some en367) .leaf .leaf
theorem tk367 : AllT (Entry.ok CC LL) tr367 367 256 := AllT.mk (allSome k367) (AllT.leaf 623 512) (AllT.leaf 879 512) rfl rfl rfl
def tr239 : Tree Entry := .node (some en239) tr367 .leaf
theorem tk239 : AllT (Entry.ok CC LL) tr239 239 128 := AllT.mk (allSome k239) tk367 (AllT.leaf 495 256) rfl rfl rfl
def tr431 : Tree Entry := .node none .leaf .leaf
theorem tk431 : AllT (Entry.ok CC LL) tr431 431 256 := AllT.mk allNone (AllT.leaf 687 512) (AllT.leaf 943 512) rfl rfl rfl
def tr303 : Tree Entry := .node none .leaf .leaf
theorem tk303 : AllT (Entry.ok CC LL) tr303 303 256 := AllT.mk allNone (AllT.leaf 559 512) (AllT.leaf 815 512) rfl rfl rfl
def tr175 : Tree Entry := .node (some en175) tr303 tr431
theorem tk175 : AllT (Entry.ok CC LL) tr175 175 128 := AllT.mk (allSome k175) tk303 tk431 rfl rfl rfl
def tr111 : Tree Entry := .node none tr175 tr239
theorem tk111 : AllT (Entry.ok CC LL) tr111 111 64 := AllT.mk allNone tk175 tk239 rfl rfl rfl
def tr335 : Tree Entry := .node (some en335) .leaf .leaf
theorem tk335 : AllT (Entry.ok CC LL) tr335 335 256 := AllT.mk (allSome k335) (AllT.leaf 591 512) (AllT.leaf 847 512) rfl rfl rfl
def tr207 : Tree Entry := .node (some en207) tr335 .leaf
theorem tk207 : AllT (Entry.ok CC LL) tr207 207 128 := AllT.mk (allSome k207) tk335 (AllT.leaf 463 256) rfl rfl rfl
def tr399 : Tree Entry := .node none .leaf .leaf
theorem tk399 : AllT (Entry.ok CC LL) tr399 399 256 := AllT.mk allNone (AllT.leaf 655 512) (AllT.leaf 911 512) rfl rfl rfl
def tr271 : Tree Entry := .node (some en271) .leaf .leaf
theorem tk271 : AllT (Entry.ok CC LL) tr271 271 256 := AllT.mk (allSome k271) (AllT.leaf 527 512) (AllT.leaf 783 512) rfl rfl rfl
def tr143 : Tree Entry := .node none tr271 tr399
theorem tk143 : AllT (Entry.ok CC LL) tr143 143 128 := AllT.mk allNone tk271 tk399 rfl rfl rfl
def tr79 : Tree Entry := .node none tr143 tr207
theorem tk79 : AllT (Entry.ok CC LL) tr79 79 64 := AllT.mk allNone tk143 tk207 rfl rfl rfl
def tr47 : Tree Entry := .node (some en47) tr79 tr111
theorem tk47 : AllT (Entry.ok CC LL) tr47 47 32 := AllT.mk (allSome k47) tk79 tk111 rfl rfl rfl
def tr351 : Tree Entry := .node (some en351) .leaf .leaf
theorem tk351 : AllT (Entry.ok CC LL) tr351 351 256 := AllT.mk (allSome k351) (AllT.leaf 607 512) (AllT.leaf 863 512) rfl rfl rfl
def tr223 : Tree Entry := .node none tr351 .leaf
theorem tk223 : AllT (Entry.ok CC LL) tr223 223 128 := AllT.mk allNone tk351 (AllT.leaf 479 256) rfl rfl rfl
def tr415 : Tree Entry := .node none .leaf .leaf
theorem tk415 : AllT (Entry.ok CC LL) tr415 415 256 := AllT.mk allNone (AllT.leaf 671 512) (AllT.leaf 927 512) rfl rfl rfl
def tr287 : Tree Entry := .node none .leaf .leaf
theorem tk287 : AllT (Entry.ok CC LL) tr287 287 256 := AllT.mk allNone (AllT.leaf 543 512) (AllT.leaf 799 512) rfl rfl rfl
def tr159 : Tree Entry := .node (some en159) tr287 tr415
theorem tk159 : AllT (Entry.ok CC LL) tr159 159 128 := AllT.mk (allSome k159) tk287 tk415 rfl rfl rfl
def tr95 : Tree Entry := .node none tr159 tr223
theorem tk95 : AllT (Entry.ok CC LL) tr95 95 64 := AllT.mk allNone tk159 tk223 rfl rfl rfl
def tr319 : Tree Entry := .node (some en319) .leaf .leaf
theorem tk319 : AllT (Entry.ok CC LL) tr319 319 256 := AllT.mk (allSome k319) (AllT.leaf 575 512) (AllT.leaf 831 512) rfl rfl rfl
def tr191 : Tree Entry := .node none tr319 .leaf
theorem tk191 : AllT (Entry.ok CC LL) tr191 191 128 := AllT.mk allNone tk319 (AllT.leaf 447 256) rfl rfl rfl
def tr383 : Tree Entry := .node (some en383) .leaf .leaf
theorem tk383 : AllT (Entry.ok CC LL) tr383 383 256 := AllT.mk (allSome k383) (AllT.leaf 639 512) (AllT.leaf 895 512) rfl rfl rfl
def tr255 : Tree Entry := .node (some en255) .leaf .leaf
theorem tk255 : AllT (Entry.ok CC LL) tr255 255 256 := AllT.mk (allSome k255) (AllT.leaf 511 512) (AllT.leaf 767 512) rfl rfl rfl
def tr127 : Tree Entry := .node none tr255 tr383
theorem tk127 : AllT (Entry.ok CC LL) tr127 127 128 := AllT.mk allNone tk255 tk383 rfl rfl rfl
def tr63 : Tree Entry := .node none tr127 tr191
theorem tk63 : AllT (Entry.ok CC LL) tr63 63 64 := AllT.mk allNone tk127 tk191 rfl rfl rfl
def tr31 : Tree Entry := .node (some en31) tr63 tr95
theorem tk31 : AllT (Entry.ok CC LL) tr31 31 32 := AllT.mk (allSome k31) tk63 tk95 rfl rfl rfl
def tr15 : Tree Entry := .node none tr31 tr47
theorem tk15 : AllT (Entry.ok CC LL) tr15 15 16 := AllT.mk allNone tk31 tk47 rfl rfl rfl
def tr7 : Tree Entry := .node none tr15 tr23
theorem tk7 : AllT (Entry.ok CC LL) tr7 7 8 := AllT.mk allNone tk15 tk23 rfl rfl rfl
def tr3 : Tree Entry := .node none tr7 tr11
theorem tk3 : AllT (Entry.ok CC LL) tr3 3 4 := AllT.mk allNone tk7 tk11 rfl rfl rfl
def tr1 : Tree Entry := .node none tr3 tr5
theorem tk1 : AllT (Entry.ok CC LL) tr1 1 2 := AllT.mk allNone tk3 tk5 rfl rfl rfl
def tr0 : Tree Entry := .node none tr1 tr2
theorem tk0 : AllT (Entry.ok CC LL) tr0 0 1 := AllT.mk allNone tk1 tk2 rfl rfl rfl
theorem exts_ok : ExtsAt PP exts := ⟨⟨(PP.funcs[226]?).getD default, by kernel_rfl, by kernel_rfl, by kernel_rfl, by kernel_rfl, by kernel_rfl⟩, ⟨(PP.funcs[302]?).getD default, by kernel_rfl, by kernel_rfl, by kernel_rfl, by kernel_rfl, by kernel_rfl⟩, trivial⟩
theorem cok : COk CC := cok_exts (l := exts) (by kernel_rfl) (fun _ => rfl) (by kernel_rfl) exts_ok
end
end Go.Proofs.YtcfnndmehnppnaaGreatDoor.pathKnown
