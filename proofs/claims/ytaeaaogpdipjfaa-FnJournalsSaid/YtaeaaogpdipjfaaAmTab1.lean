/- The functions that are reached, in their normal form; written by a program. -/
import Derived.Test.YtaeaaogpdipjfaaAmRules
set_option linter.unusedVariables false
set_option maxRecDepth 100000
namespace Am
open Go
/-- laws.FnPacked -/
def fn254 : AFun := ⟨1,
(.seq (reg [op 2 (.move (.const (B false)))])
(.seq (.seq (reg [op 34 (.move (.tmp 0)) 1,
  op 35 (call (.func 269) #[(.global 34)])])
(.cond (.tmp 35)
  (.seq (reg [op 2 (.move (.const (B true)))])
  .ret)
  .skip))
(.seq (reg [op 36 (.move (.tmp 0)) 1,
  op 37 (call (.func 362) #[(.global 36)]) 1,
  op 3 (.move (.const (.agg #[(I 0), (I 0), (sl 0 0 0 0)]))),
  op 3 (.insert 3 (.tmp 3) (.tmp 3) (.global 37))])
(.seq (reg [op 39 (.lookup 4 (.tmp 3) (.tmp 3) false) 1,
  op 40 (call (.func 107) #[(.global 39)]) 1,
  op 38 (.move (.global 40)) 1,
  op 41 (.extract (.global 38) 0) 1,
  op 42 (.extract (.global 38) 1) 1,
  op 4 (.move (.global 41)),
  op 5 (.move (.global 42))])
(.seq (reg [op 44 (.lookup 4 (.tmp 3) (.tmp 3) false) 1,
  op 45 (call (.func 398) #[(.global 44)]) 1,
  op 43 (.move (.global 45)) 1,
  op 46 (.extract (.global 43) 0) 1,
  op 47 (.extract (.global 43) 1) 1,
  op 6 (.move (.global 46)),
  op 7 (.move (.global 47))])
(.seq (reg [op 48 (.move (.tmp 0)) 1,
  op 49 (call (.func 375) #[(.global 48)]) 1,
  op 8 (.move (.global 49))])
(.seq (reg [op 51 (.move (.tmp 8)) 1,
  op 52 (call (.func 136) #[(.global 51)]) 1,
  op 50 (.move (.global 52)) 1,
  op 53 (.extract (.global 50) 0) 1,
  op 54 (.extract (.global 50) 1) 1,
  op 9 (.move (.const (.agg #[(I 0), (I 0), (sl 0 0 0 0)]))),
  op 9 (.insert 3 (.tmp 9) (.tmp 9) (.global 53)),
  op 10 (.move (.global 54))])
(.seq (reg [op 56 (.move (.tmp 8)) 1,
  op 57 (call (.func 426) #[(.global 56)]) 1,
  op 55 (.move (.global 57)) 1,
  op 58 (.extract (.global 55) 0) 1,
  op 59 (.extract (.global 55) 1) 1,
  op 11 (.move (.const (.agg #[(I 0), (I 0), (sl 0 0 0 0)]))),
  op 11 (.insert 3 (.tmp 11) (.tmp 11) (.global 58)),
  op 12 (.move (.global 59))])
(.seq (reg [op 60 (.move (.tmp 8)) 1,
  op 61 (call (.func 88) #[(.global 60)]) 1,
  op 13 (.move (.global 61))])
(.seq (reg [op 63 (.move (.tmp 0)) 1,
  op 64 (call (.func 363) #[(.global 63)]) 1,
  op 62 (.move (.global 64)) 1,
  op 65 (.extract (.global 62) 0) 1,
  op 66 (.extract (.global 62) 1) 1,
  op 14 (.move (.global 65)),
  op 15 (.move (.global 66))])
(.seq (reg [op 68 (.move (.tmp 14)) 1,
  op 69 (.move (.tmp 15)) 1,
  op 70 (call (.func 108) #[(.global 68), (.global 69)]) 1,
  op 67 (.move (.global 70)) 1,
  op 71 (.extract (.global 67) 0) 1,
  op 72 (.extract (.global 67) 1) 1,
  op 16 (.move (.global 71)),
  op 17 (.move (.global 72))])
(.seq (reg [op 74 (.move (.tmp 14)) 1,
  op 75 (.move (.tmp 15)) 1,
  op 76 (call (.func 399) #[(.global 74), (.global 75)]) 1,
  op 73 (.move (.global 76)) 1,
  op 77 (.extract (.global 73) 0) 1,
  op 78 (.extract (.global 73) 1) 1,
  op 18 (.move (.global 77)),
  op 19 (.move (.global 78))])
(.seq (reg [op 79 (.move (.tmp 0)) 1,
  op 80 (call (.func 369) #[(.global 79)]) 1,
  op 20 (.move (.global 80))])
(.seq (reg [op 82 (.move (.tmp 20)) 1,
  op 83 (call (.func 120) #[(.global 82)]) 1,
  op 81 (.move (.global 83)) 1,
  op 84 (.extract (.global 81) 0) 1,
  op 85 (.extract (.global 81) 1) 1,
  op 21 (.move (.global 84)),
  op 22 (.move (.global 85))])
(.seq (reg [op 87 (.move (.tmp 20)) 1,
  op 88 (call (.func 411) #[(.global 87)]) 1,
  op 86 (.move (.global 88)) 1,
  op 89 (.extract (.global 86) 0) 1,
  op 90 (.extract (.global 86) 1) 1,
  op 23 (.move (.global 89)),
  op 24 (.move (.global 90))])
(.seq (.seq (reg [op 91 (.move (.tmp 5)) 1,
  op 92 (.move (.tmp 7)) 1,
  op 93 (.binOp .neq 0 (.global 91) (.global 92) 0) 1,
  op 94 (.move (.global 93)) 1,
  op 95 (.move (.tmp 4)) 1 (some (377, false)),
  op 96 (.move (.tmp 6)) 1 (some (377, false)),
  op 97 (.binOp .neq 0 (.global 95) (.global 96) 0) 1 (some (377, false)),
  op 98 (.pick (.global 94) (.const (B true)) (.global 97)) 1,
  op 99 (.move (.global 98)) 1,
  op 100 (.move (.tmp 10)) 1 (some (397, false)),
  op 101 (.move (.tmp 12)) 1 (some (397, false)),
  op 102 (.binOp .neq 0 (.global 100) (.global 101) 0) 1 (some (397, false)),
  op 103 (.pick (.global 99) (.const (B true)) (.global 102)) 1,
  op 104 (.move (.global 103)) 1,
  op 105 (.lookup 4 (.tmp 9) (.tmp 9) false) 1 (some (417, false)),
  op 106 (.lookup 4 (.tmp 11) (.tmp 11) false) 1 (some (417, false)),
  op 107 (call (.func 420) #[(.global 105), (.global 106)]) 1 (some (417, false)),
  op 108 (.unOp .not 0 (.global 107)) 1 (some (417, false)),
  op 109 (.pick (.global 104) (.const (B true)) (.global 108)) 1,
  op 110 (.move (.global 109)) 1,
  op 111 (.move (.tmp 13)) 1 (some (441, false)),
  op 112 (.move (.tmp 8)) 1 (some (441, false)),
  op 113 (call (.func 381) #[(.global 112)]) 1 (some (441, false)),
  op 114 (.binOp .neq 0 (.global 111) (.global 113) 0) 1 (some (441, false)),
  op 115 (.pick (.global 110) (.const (B true)) (.global 114)) 1,
  op 116 (.move (.global 115)) 1,
  op 117 (.move (.tmp 13)) 1 (some (465, false)),
  op 118 (.binOp .eql 0 (.global 117) (.const (I 0)) 0) 1 (some (465, false)),
  op 119 (.move (.tmp 10)) 1 (some (465, false)),
  op 120 (.binOp .eql 0 (.global 119) (.const (I 0)) 0) 1 (some (465, false)),
  op 121 (.binOp .neq 1 (.global 118) (.global 120) 0) 1 (some (465, false)),
  op 122 (.pick (.global 116) (.const (B true)) (.global 121)) 1,
  op 123 (.move (.global 122)) 1,
  op 124 (.move (.tmp 17)) 1 (some (493, false)),
  op 125 (.move (.tmp 19)) 1 (some (493, false)),
  op 126 (.binOp .neq 0 (.global 124) (.global 125) 0) 1 (some (493, false)),
  op 127 (.pick (.global 123) (.const (B true)) (.global 126)) 1,
  op 128 (.move (.global 127)) 1,
  op 129 (.move (.tmp 16)) 1 (some (513, false)),
  op 130 (.move (.tmp 18)) 1 (some (513, false)),
  op 131 (.binOp .neq 0 (.global 129) (.global 130) 0) 1 (some (513, false)),
  op 132 (.pick (.global 128) (.const (B true)) (.global 131)) 1,
  op 133 (.move (.global 132)) 1,
  op 134 (.move (.tmp 22)) 1 (some (533, false)),
  op 135 (.move (.tmp 24)) 1 (some (533, false)),
  op 136 (.binOp .neq 1 (.global 134) (.global 135) 0) 1 (some (533, false)),
  op 137 (.pick (.global 133) (.const (B true)) (.global 136)) 1,
  op 138 (.move (.global 137)) 1,
  op 139 (.move (.tmp 21)) 1 (some (553, false)),
  op 140 (.move (.tmp 23)) 1 (some (553, false)),
  op 141 (.binOp .neq 0 (.global 139) (.global 140) 0) 1 (some (553, false)),
  op 142 (.pick (.global 138) (.const (B true)) (.global 141)) 1,
  op 143 (.move (.global 142)) 1,
  op 144 (.move (.tmp 8)) 1 (some (573, false)),
  op 145 (call (.func 64) #[(.global 144)]) 1 (some (573, false)),
  op 146 (.move (.tmp 8)) 1 (some (573, false)),
  op 147 (call (.func 333) #[(.global 146)]) 1 (some (573, false)),
  op 148 (.binOp .neq 0 (.global 145) (.global 147) 0) 1 (some (573, false)),
  op 149 (.pick (.global 143) (.const (B true)) (.global 148))])
(.cond (.tmp 149)
  (.seq (reg [op 2 (.move (.const (B false)))])
  .ret)
  .skip))
(.seq (reg [op 150 (.move (.tmp 8)) 1,
  op 151 (call (.func 87) #[(.global 150)]) 1,
  op 25 (.move (.global 151))])
(.seq (reg [op 153 (.move (.tmp 25)) 1,
  op 154 (call (.func 120) #[(.global 153)]) 1,
  op 152 (.move (.global 154)) 1,
  op 155 (.extract (.global 152) 0) 1,
  op 156 (.extract (.global 152) 1) 1,
  op 26 (.move (.global 155)),
  op 27 (.move (.global 156))])
(.seq (.seq (reg [op 157 (.move (.tmp 25)) 1,
  op 158 (.move (.tmp 8)) 1,
  op 159 (call (.func 380) #[(.global 158)]) 1,
  op 160 (.binOp .neq 0 (.global 157) (.global 159) 0) 1,
  op 161 (.move (.global 160)) 1,
  op 162 (.move (.tmp 27)) 1 (some (645, false)),
  op 163 (.unOp .not 0 (.global 162)) 1 (some (645, false)),
  op 164 (.pick (.global 161) (.const (B true)) (.global 163)) 1,
  op 165 (.move (.global 164)) 1,
  op 166 (.move (.tmp 26)) 1 (some (661, false)),
  op 167 (.move (.tmp 8)) 1 (some (661, false)),
  op 168 (.binOp .neq 0 (.global 166) (.global 167) 0) 1 (some (661, false)),
  op 169 (.pick (.global 165) (.const (B true)) (.global 168)) 1,
  op 170 (.move (.global 169)) 1,
  op 171 (.move (.tmp 25)) 1 (some (681, false)),
  op 172 (bi .len #[(.global 171)] 0) 1 (some (681, false)),
  op 173 (.move (.tmp 8)) 1 (some (681, false)),
  op 174 (bi .len #[(.global 173)] 0) 1 (some (681, false)),
  op 175 (.binOp .mul 0 (.const (I 2)) (.global 174) 0) 1 (some (681, false)),
  op 176 (.binOp .neq 0 (.global 172) (.global 175) 0) 1 (some (681, false)),
  op 177 (.pick (.global 170) (.const (B true)) (.global 176))])
(.cond (.tmp 177)
  (.seq (reg [op 2 (.move (.const (B false)))])
  .ret)
  .skip))
(.seq (.seq (reg [op 178 (.move (.tmp 10)) 1,
  op 179 (.binOp .eql 0 (.global 178) (.const (I 0)) 0)])
(.cond (.tmp 179)
  (.seq (reg [op 181 (.lookup 4 (.tmp 9) (.tmp 9) false) 1,
    op 182 (call (.func 107) #[(.global 181)]) 1,
    op 180 (.move (.global 182)) 1,
    op 183 (.extract (.global 180) 0) 1,
    op 184 (.extract (.global 180) 1) 1,
    op 28 (.move (.global 183)),
    op 29 (.move (.global 184))])
  (.seq (reg [op 185 (.move (.tmp 29)) 1,
    op 186 (.binOp .neq 0 (.global 185) (.const (I 0)) 0) 1,
    op 187 (.move (.global 186)) 1,
    op 188 (.move (.tmp 28)) 1 (some (749, false)),
    op 189 (.move (.tmp 8)) 1 (some (749, false)),
    op 190 (.binOp .neq 0 (.global 188) (.global 189) 0) 1 (some (749, false)),
    op 191 (.pick (.global 187) (.const (B true)) (.global 190))])
  (.cond (.tmp 191)
    (.seq (reg [op 2 (.move (.const (B false)))])
    .ret)
    .skip)))
  .skip))
(.seq (.seq (reg [op 192 (.move (.tmp 5)) 1,
  op 193 (.binOp .neq 0 (.global 192) (.const (I 0)) 0)])
(.cond (.tmp 193)
  (.seq (reg [op 2 (.move (.const (B true)))])
  .ret)
  .skip))
(.seq (reg [op 195 (.move (.tmp 4)) 1,
  op 196 (call (.func 136) #[(.global 195)]) 1,
  op 194 (.move (.global 196)) 1,
  op 197 (.extract (.global 194) 0) 1,
  op 198 (.extract (.global 194) 1) 1,
  op 30 (.move (.const (.agg #[(I 0), (I 0), (sl 0 0 0 0)]))),
  op 30 (.insert 3 (.tmp 30) (.tmp 30) (.global 197)),
  op 31 (.move (.global 198))])
(.seq (reg [op 200 (.fieldAddr 0 (.tmp 3) 1) 1,
  op 201 (.lookup 0 (.tmp 3) (.global 200) false) 1,
  op 202 (.fieldAddr 1 (.tmp 3) 1) 1,
  op 203 (.lookup 0 (.tmp 3) (.global 202) false) 1,
  op 204 (call (.func 108) #[(.global 201), (.global 203)]) 1,
  op 199 (.move (.global 204)) 1,
  op 205 (.extract (.global 199) 0) 1,
  op 206 (.extract (.global 199) 1) 1,
  op 32 (.move (.global 205)),
  op 33 (.move (.global 206))])
(.seq (reg [op 207 (.move (.tmp 31)) 1,
  op 208 (.binOp .eql 0 (.global 207) (.const (I 0)) 0) 1,
  op 209 (.move (.global 208)) 1,
  op 210 (.lookup 4 (.tmp 30) (.tmp 30) false) 1 (some (837, true)),
  op 211 (.lookup 4 (.tmp 3) (.tmp 3) false) 1 (some (837, true)),
  op 212 (call (.func 420) #[(.global 210), (.global 211)]) 1 (some (837, true)),
  op 213 (.pick (.global 209) (.global 212) (.const (B false))) 1,
  op 214 (.move (.global 213)) 1,
  op 215 (.move (.tmp 33)) 1 (some (857, true)),
  op 216 (.binOp .eql 0 (.global 215) (.const (I 0)) 0) 1 (some (857, true)),
  op 217 (.pick (.global 214) (.global 216) (.const (B false))) 1,
  op 218 (.move (.global 217)) 1,
  op 219 (.move (.tmp 32)) 1 (some (873, true)),
  op 220 (.move (.tmp 4)) 1 (some (873, true)),
  op 221 (bi .len #[(.global 220)] 0) 1 (some (873, true)),
  op 222 (.binOp .eql 0 (.global 219) (.global 221) 0) 1 (some (873, true)),
  op 223 (.pick (.global 218) (.global 222) (.const (B false))) 1,
  op 2 (.move (.global 223))])
.ret)))))))))))))))))))))))), [(2, 0)]⟩

/-- laws.FnSquashed -/
def fn256 : AFun := ⟨1,
(.seq (reg [op 2 (.move (.const (B false)))])
(.seq (.seq (reg [op 17 (.move (.tmp 0)) 1,
  op 18 (call (.func 258) #[(.global 17), (.const (sl 0 0 0 0))])])
(.cond (.tmp 18)
  (.seq (reg [op 2 (.move (.const (B true)))])
  .ret)
  .skip))
(.seq (reg [op 19 (.move (.tmp 0)) 1,
  op 20 (call (.func 327) #[(.global 19)]) 1,
  op 3 (.move (.const (.agg #[(I 0), (I 0), (sl 0 0 0 0), (sl 0 0 0 0), (sl 0 0 0 0)]))),
  op 3 (.insert 5 (.tmp 3) (.tmp 3) (.global 20))])
(.seq (reg [op 22 (.lookup 6 (.tmp 3) (.tmp 3) false) 1,
  op 23 (call (.func 131) #[(.global 22)]) 1,
  op 21 (.move (.global 23)) 1,
  op 24 (.extract (.global 21) 0) 1,
  op 25 (.extract (.global 21) 1) 1,
  op 4 (.move (.const (.agg #[(I 0), (I 0), (sl 0 0 0 0), (sl 0 0 0 0), (sl 0 0 0 0)]))),
  op 4 (.insert 5 (.tmp 4) (.tmp 4) (.global 24)),
  op 5 (.move (.global 25))])
(.seq (.seq (reg [op 26 (.move (.tmp 5)) 1,
  op 27 (.binOp .neq 0 (.global 26) (.const (I 0)) 0) 1,
  op 28 (.move (.global 27)) 1,
  op 29 (.lookup 6 (.tmp 4) (.tmp 4) false) 1 (some (113, false)),
  op 30 (call (.func 427) #[(.global 29)]) 1 (some (113, false)),
  op 31 (.unOp .not 0 (.global 30)) 1 (some (113, false)),
  op 32 (.pick (.global 28) (.const (B true)) (.global 31)) 1,
  op 33 (.move (.global 32)) 1,
  op 34 (.fieldAddr 3 (.tmp 4) 1) 1 (some (133, false)),
  op 35 (.lookup 0 (.tmp 4) (.global 34) false) 1 (some (133, false)),
  op 36 (bi .len #[(.global 35)] 1) 1 (some (133, false)),
  op 37 (.fieldAddr 3 (.tmp 3) 1) 1 (some (133, false)),
  op 38 (.lookup 0 (.tmp 3) (.global 37) false) 1 (some (133, false)),
  op 39 (bi .len #[(.global 38)] 1) 1 (some (133, false)),
  op 40 (.binOp .gtr 0 (.global 36) (.global 39) 0) 1 (some (133, false)),
  op 41 (.pick (.global 33) (.const (B true)) (.global 40)) 1,
  op 42 (.move (.global 41)) 1,
  op 43 (.fieldAddr 4 (.tmp 4) 1) 1 (some (169, false)),
  op 44 (.lookup 0 (.tmp 4) (.global 43) false) 1 (some (169, false)),
  op 45 (bi .len #[(.global 44)] 1) 1 (some (169, false)),
  op 46 (.binOp .neq 0 (.global 45) (.const (I 0)) 0) 1 (some (169, false)),
  op 47 (.pick (.global 42) (.const (B true)) (.global 46))])
(.cond (.tmp 47)
  (.seq (reg [op 2 (.move (.const (B false)))])
  .ret)
  .skip))
(.seq (reg [op 49 (.lookup 6 (.tmp 4) (.tmp 4) false) 1,
  op 50 (call (.func 423) #[(.global 49)]) 1,
  op 48 (.move (.global 50)) 1,
  op 51 (.extract (.global 48) 0) 1,
  op 52 (.extract (.global 48) 1) 1,
  op 6 (.move (.const (.agg #[(I 0), (I 0), (sl 0 0 0 0)]))),
  op 6 (.insert 3 (.tmp 6) (.tmp 6) (.global 51)),
  op 7 (.move (.global 52))])
(.seq (reg [op 54 (.lookup 6 (.tmp 3) (.tmp 3) false) 1,
  op 55 (call (.func 423) #[(.global 54)]) 1,
  op 53 (.move (.global 55)) 1,
  op 56 (.extract (.global 53) 0) 1,
  op 57 (.extract (.global 53) 1) 1,
  op 8 (.move (.const (.agg #[(I 0), (I 0), (sl 0 0 0 0)]))),
  op 8 (.insert 3 (.tmp 8) (.tmp 8) (.global 56)),
  op 9 (.move (.global 57))])
(.seq (reg [op 59 (.lookup 6 (.tmp 3) (.tmp 3) false) 1,
  op 60 (call (.func 74) #[(.global 59)]) 1,
  op 58 (.move (.global 60)) 1,
  op 61 (.extract (.global 58) 0) 1,
  op 62 (.extract (.global 58) 1) 1,
  op 10 (.move (.global 61)),
  op 11 (.move (.global 62))])
(.seq (.seq (reg [op 63 (.move (.tmp 7)) 1,
  op 64 (.binOp .neq 0 (.global 63) (.const (I 0)) 0) 1,
  op 65 (.move (.global 64)) 1,
  op 66 (.move (.tmp 9)) 1 (some (261, false)),
  op 67 (.binOp .neq 0 (.global 66) (.const (I 0)) 0) 1 (some (261, false)),
  op 68 (.pick (.global 65) (.const (B true)) (.global 67)) 1,
  op 69 (.move (.global 68)) 1,
  op 70 (.lookup 4 (.tmp 6) (.tmp 6) false) 1 (some (277, false)),
  op 71 (.lookup 4 (.tmp 8) (.tmp 8) false) 1 (some (277, false)),
  op 72 (call (.func 420) #[(.global 70), (.global 71)]) 1 (some (277, false)),
  op 73 (.unOp .not 0 (.global 72)) 1 (some (277, false)),
  op 74 (.pick (.global 69) (.const (B true)) (.global 73)) 1,
  op 75 (.move (.global 74)) 1,
  op 76 (.fieldAddr 0 (.tmp 4) 1) 1 (some (301, false)),
  op 77 (.lookup 4 (.tmp 4) (.global 76) false) 1 (some (301, false)),
  op 78 (.fieldAddr 0 (.tmp 3) 1) 1 (some (301, false)),
  op 79 (.lookup 4 (.tmp 3) (.global 78) false) 1 (some (301, false)),
  op 80 (call (.func 420) #[(.global 77), (.global 79)]) 1 (some (301, false)),
  op 81 (.unOp .not 0 (.global 80)) 1 (some (301, false)),
  op 82 (.pick (.global 75) (.const (B true)) (.global 81)) 1,
  op 83 (.move (.global 82)) 1,
  op 84 (.move (.tmp 11)) 1 (some (333, false)),
  op 85 (.binOp .neq 0 (.global 84) (.const (I 0)) 0) 1 (some (333, false)),
  op 86 (.pick (.global 83) (.const (B true)) (.global 85)) 1,
  op 87 (.move (.global 86)) 1,
  op 88 (.move (.tmp 10)) 1 (some (349, false)),
  op 89 (bi .len #[(.global 88)] 1) 1 (some (349, false)),
  op 90 (.fieldAddr 3 (.tmp 3) 1) 1 (some (349, false)),
  op 91 (.lookup 0 (.tmp 3) (.global 90) false) 1 (some (349, false)),
  op 92 (bi .len #[(.global 91)] 1) 1 (some (349, false)),
  op 93 (.binOp .add 0 (.global 92) (.const (I 1)) 0) 1 (some (349, false)),
  op 94 (.binOp .neq 0 (.global 89) (.global 93) 0) 1 (some (349, false)),
  op 95 (.pick (.global 87) (.const (B true)) (.global 94))])
(.cond (.tmp 95)
  (.seq (reg [op 2 (.move (.const (B false)))])
  .ret)
  .skip))
(.seq (reg [op 97 (.lookup 4 (.tmp 8) (.tmp 8) false) 1,
  op 98 (call (.func 340) #[(.global 97)]) 1,
  op 96 (.move (.global 98)) 1,
  op 99 (.extract (.global 96) 0) 1,
  op 100 (.extract (.global 96) 1) 1,
  op 12 (.move (.global 99)),
  op 13 (.move (.global 100))])
(.seq (reg [op 102 (.fieldAddr 0 (.tmp 3) 1) 1,
  op 103 (.lookup 4 (.tmp 3) (.global 102) false) 1,
  op 104 (call (.func 340) #[(.global 103)]) 1,
  op 101 (.move (.global 104)) 1,
  op 105 (.extract (.global 101) 0) 1,
  op 106 (.extract (.global 101) 1) 1,
  op 14 (.move (.global 105)),
  op 15 (.move (.global 106))])
(.seq (.seq (reg [op 107 (.move (.tmp 13)) 1,
  op 108 (.binOp .neq 0 (.global 107) (.const (I 0)) 0) 1,
  op 109 (.move (.global 108)) 1,
  op 110 (.move (.tmp 15)) 1 (some (437, false)),
  op 111 (.binOp .neq 0 (.global 110) (.const (I 0)) 0) 1 (some (437, false)),
  op 112 (.pick (.global 109) (.const (B true)) (.global 111)) 1,
  op 113 (.move (.global 112)) 1,
  op 114 (.move (.tmp 10)) 1 (some (453, false)),
  op 115 (.indexAddr 3 (.global 114) (.const (I 0))) 1 (some (453, false)),
  op 116 (.load 0 (.global 115)) 1 (some (453, false)),
  op 117 (.move (.tmp 12)) 1 (some (453, false)),
  op 118 (.binOp .neq 0 (.global 116) (.global 117) 0) 1 (some (453, false)),
  op 119 (.pick (.global 113) (.const (B true)) (.global 118)) 1,
  op 120 (.move (.global 119)) 1,
  op 121 (.move (.tmp 10)) 1 (some (481, false)),
  op 122 (.move (.tmp 10)) 1 (some (481, false)),
  op 123 (bi .len #[(.global 122)] 1) 1 (some (481, false)),
  op 124 (.binOp .sub 0 (.global 123) (.const (I 1)) 0) 1 (some (481, false)),
  op 125 (.indexAddr 3 (.global 121) (.global 124)) 1 (some (481, false)),
  op 126 (.load 0 (.global 125)) 1 (some (481, false)),
  op 127 (.move (.tmp 14)) 1 (some (481, false)),
  op 128 (.binOp .neq 0 (.global 126) (.global 127) 0) 1 (some (481, false)),
  op 129 (.pick (.global 120) (.const (B true)) (.global 128))])
(.cond (.tmp 129)
  (.seq (reg [op 2 (.move (.const (B false)))])
  .ret)
  .skip))
(.seq (.seq (reg [op 16 (.move (.const (I 1)))])
(.block 0
  (.loop
    (.seq (.seq (reg [op 130 (.move (.tmp 16)) 1,
      op 131 (.move (.tmp 10)) 1,
      op 132 (bi .len #[(.global 131)] 1) 1,
      op 133 (.binOp .lss 0 (.global 130) (.global 132) 0)])
    (.cond (.tmp 133)
      .skip
      (.exit 0)))
    (.seq (.block 1
      (.seq (reg [op 136 (.move (.tmp 10)) 1,
        op 137 (.move (.tmp 16)) 1,
        op 138 (.indexAddr 3 (.global 136) (.global 137)) 1,
        op 139 (.load 0 (.global 138)) 1,
        op 140 (.move (.tmp 10)) 1,
        op 141 (.move (.tmp 16)) 1,
        op 142 (.binOp .sub 0 (.global 141) (.const (I 1)) 0) 1,
        op 143 (.indexAddr 3 (.global 140) (.global 142)) 1,
        op 144 (.load 0 (.global 143)) 1,
        op 145 (.binOp .add 0 (.global 144) (.const (I 1)) 0) 1,
        op 146 (.binOp .gtr 0 (.global 139) (.global 145) 0) 1,
        op 147 (.move (.global 146)) 1,
        op 148 (.move (.tmp 10)) 1 (some (589, false)),
        op 149 (.move (.tmp 16)) 1 (some (589, false)),
        op 150 (.indexAddr 3 (.global 148) (.global 149)) 1 (some (589, false)),
        op 151 (.load 0 (.global 150)) 1 (some (589, false)),
        op 152 (.move (.tmp 10)) 1 (some (589, false)),
        op 153 (.move (.tmp 16)) 1 (some (589, false)),
        op 154 (.binOp .sub 0 (.global 153) (.const (I 1)) 0) 1 (some (589, false)),
        op 155 (.indexAddr 3 (.global 152) (.global 154)) 1 (some (589, false)),
        op 156 (.load 0 (.global 155)) 1 (some (589, false)),
        op 157 (.binOp .sub 0 (.global 156) (.const (I 1)) 0) 1 (some (589, false)),
        op 158 (.binOp .lss 0 (.global 151) (.global 157) 0) 1 (some (589, false)),
        op 159 (.pick (.global 147) (.const (B true)) (.global 158))])
      (.cond (.tmp 159)
        (.seq (reg [op 2 (.move (.const (B false)))])
        .ret)
        .skip)))
    (reg [op 134 (.move (.tmp 16)) 1,
      op 135 (.binOp .add 0 (.global 134) (.const (I 1)) 0) 1,
      op 16 (.move (.global 135))]))))))
(.seq (reg [op 2 (.move (.const (B true)))])
.ret)))))))))))))), [(2, 0)]⟩

/-- laws.FnJournals -/
def fn250 : AFun := ⟨2,
(.seq (reg [op 4 (.move (.const (B false)))])
(.seq (.seq (reg [op 25 (.move (.tmp 0)) 1,
  op 26 (.move (.tmp 1)) 1,
  op 27 (call (.func 258) #[(.global 25), (.global 26)])])
(.cond (.tmp 27)
  (.seq (reg [op 4 (.move (.const (B true)))])
  .ret)
  .skip))
(.seq (reg [op 28 (.move (.tmp 0)) 1,
  op 29 (call (.func 327) #[(.global 28)]) 1,
  op 5 (.move (.const (.agg #[(I 0), (I 0), (sl 0 0 0 0), (sl 0 0 0 0), (sl 0 0 0 0)]))),
  op 5 (.insert 5 (.tmp 5) (.tmp 5) (.global 29))])
(.seq (reg [op 30 (.fieldAddr 0 (.tmp 5) 1) 1,
  op 31 (.fieldAddr 2 (.global 30) 1) 1,
  op 32 (.lookup 0 (.tmp 5) (.global 31) false) 1,
  op 33 (bi .len #[(.global 32)] 1) 1,
  op 6 (.move (.global 33))])
(.seq (.seq (reg [op 34 (.move (.tmp 6)) 1,
  op 35 (.binOp .gtr 0 (.global 34) (.const (I 0)) 0)])
(.cond (.tmp 35)
  (.seq (reg [op 36 (.move (.tmp 1)) 1,
    op 37 (.move (.tmp 6)) 1,
    op 38 (call (.func 257) #[(.global 36), (.const (I 0)), (.global 37)]) 1,
    op 7 (.move (.global 38))])
  (.seq (reg [op 39 (.move (.tmp 1)) 1,
    op 40 (call (.func 257) #[(.global 39), (.const (I 1)), (.const (I 3))]) 1,
    op 8 (.move (.global 40))])
  (.seq (reg [op 42 (.lookup 6 (.tmp 5) (.tmp 5) false) 1,
    op 43 (.move (.tmp 7)) 1,
    op 44 (.move (.tmp 8)) 1,
    op 45 (call (.func 82) #[(.global 42), (.global 43), (.global 44)]) 1,
    op 41 (.move (.global 45)) 1,
    op 46 (.extract (.global 41) 0) 1,
    op 47 (.extract (.global 41) 1) 1,
    op 9 (.move (.const (.agg #[(I 0), (I 0), (sl 0 0 0 0), (sl 0 0 0 0), (sl 0 0 0 0)]))),
    op 9 (.insert 5 (.tmp 9) (.tmp 9) (.global 46)),
    op 10 (.move (.global 47))])
  (.seq (.seq (reg [op 48 (.move (.tmp 10)) 1,
    op 49 (.binOp .eql 0 (.global 48) (.const (I 0)) 0) 1,
    op 50 (.fieldAddr 0 (.tmp 5) 1) 1,
    op 51 (.fieldAddr 2 (.global 50) 1) 1,
    op 52 (.lookup 0 (.tmp 5) (.global 51) false) 1,
    op 53 (.move (.tmp 7)) 1,
    op 54 (.indexAddr 3 (.global 52) (.global 53)) 1,
    op 55 (.load 0 (.global 54)) 1,
    op 56 (.move (.tmp 8)) 1,
    op 57 (.binOp .neq 0 (.global 55) (.global 56) 0) 1,
    op 58 (.binOp .neq 1 (.global 49) (.global 57) 0)])
  (.cond (.tmp 58)
    (.seq (reg [op 4 (.move (.const (B false)))])
    .ret)
    .skip))
  (.seq (reg [op 59 (.move (.tmp 10)) 1,
    op 60 (.binOp .eql 0 (.global 59) (.const (I 0)) 0)])
  (.cond (.tmp 60)
    (.seq (.seq (reg [op 61 (.lookup 6 (.tmp 9) (.tmp 9) false) 1,
      op 62 (call (.func 427) #[(.global 61)]) 1,
      op 63 (.unOp .not 0 (.global 62)) 1,
      op 64 (.move (.global 63)) 1,
      op 65 (.fieldAddr 4 (.tmp 9) 1) 1 (some (257, false)),
      op 66 (.lookup 0 (.tmp 9) (.global 65) false) 1 (some (257, false)),
      op 67 (bi .len #[(.global 66)] 1) 1 (some (257, false)),
      op 68 (.binOp .neq 0 (.global 67) (.const (I 0)) 0) 1 (some (257, false)),
      op 69 (.pick (.global 64) (.const (B true)) (.global 68))])
    (.cond (.tmp 69)
      (.seq (reg [op 4 (.move (.const (B false)))])
      .ret)
      .skip))
    (.seq (reg [op 71 (.lookup 6 (.tmp 9) (.tmp 9) false) 1,
      op 72 (call (.func 134) #[(.global 71)]) 1,
      op 70 (.move (.global 72)) 1,
      op 73 (.extract (.global 70) 0) 1,
      op 74 (.extract (.global 70) 1) 1,
      op 11 (.move (.const (.agg #[(I 0), (I 0), (sl 0 0 0 0), (sl 0 0 0 0), (sl 0 0 0 0)]))),
      op 11 (.insert 5 (.tmp 11) (.tmp 11) (.global 73)),
      op 12 (.move (.global 74))])
    (.seq (.seq (reg [op 75 (.move (.tmp 12)) 1,
      op 76 (.binOp .neq 0 (.global 75) (.const (I 0)) 0) 1,
      op 77 (.move (.global 76)) 1,
      op 78 (.lookup 6 (.tmp 11) (.tmp 11) false) 1 (some (309, false)),
      op 79 (call (.func 427) #[(.global 78)]) 1 (some (309, false)),
      op 80 (.unOp .not 0 (.global 79)) 1 (some (309, false)),
      op 81 (.pick (.global 77) (.const (B true)) (.global 80)) 1,
      op 82 (.move (.global 81)) 1,
      op 83 (.fieldAddr 0 (.tmp 11) 1) 1 (some (329, false)),
      op 84 (.lookup 4 (.tmp 11) (.global 83) false) 1 (some (329, false)),
      op 85 (.fieldAddr 0 (.tmp 5) 1) 1 (some (329, false)),
      op 86 (.lookup 4 (.tmp 5) (.global 85) false) 1 (some (329, false)),
      op 87 (call (.func 420) #[(.global 84), (.global 86)]) 1 (some (329, false)),
      op 88 (.unOp .not 0 (.global 87)) 1 (some (329, false)),
      op 89 (.pick (.global 82) (.const (B true)) (.global 88))])
    (.cond (.tmp 89)
      (.seq (reg [op 4 (.move (.const (B false)))])
      .ret)
      .skip))
    (.seq (reg [op 91 (.lookup 6 (.tmp 11) (.tmp 11) false) 1,
      op 92 (call (.func 123) #[(.global 91)]) 1,
      op 90 (.move (.global 92)) 1,
      op 93 (.extract (.global 90) 0) 1,
      op 94 (.extract (.global 90) 1) 1,
      op 13 (.move (.const (.agg #[(I 0), (I 0), (sl 0 0 0 0), (sl 0 0 0 0), (sl 0 0 0 0)]))),
      op 13 (.insert 5 (.tmp 13) (.tmp 13) (.global 93)),
      op 14 (.move (.global 94))])
    (.seq (reg [op 95 (.move (.tmp 14)) 1,
      op 96 (.binOp .neq 0 (.global 95) (.const (I 0)) 0) 1,
      op 97 (.move (.global 96)) 1,
      op 98 (.lookup 6 (.tmp 13) (.tmp 13) false) 1 (some (389, false)),
      op 99 (.lookup 6 (.tmp 9) (.tmp 9) false) 1 (some (389, false)),
      op 100 (call (.func 418) #[(.global 98), (.global 99)]) 1 (some (389, false)),
      op 101 (.unOp .not 0 (.global 100)) 1 (some (389, false)),
      op 102 (.pick (.global 97) (.const (B true)) (.global 101))])
    (.cond (.tmp 102)
      (.seq (reg [op 4 (.move (.const (B false)))])
      .ret)
      .skip))))))
    .skip))))))
  .skip))
(.seq (reg [op 103 (.fieldAddr 3 (.tmp 5) 1) 1,
  op 104 (.lookup 0 (.tmp 5) (.global 103) false) 1,
  op 105 (bi .len #[(.global 104)] 1) 1,
  op 106 (.fieldAddr 4 (.tmp 5) 1) 1,
  op 107 (.lookup 0 (.tmp 5) (.global 106) false) 1,
  op 108 (bi .len #[(.global 107)] 1) 1,
  op 109 (.binOp .add 0 (.global 105) (.global 108) 0) 1,
  op 15 (.move (.global 109))])
(.seq (reg [op 110 (.move (.tmp 1)) 1,
  op 111 (.move (.tmp 15)) 1,
  op 112 (.binOp .add 0 (.global 111) (.const (I 1)) 0) 1,
  op 113 (call (.func 257) #[(.global 110), (.const (I 2)), (.global 112)]) 1,
  op 16 (.move (.global 113))])
(.seq (reg [op 115 (.lookup 6 (.tmp 5) (.tmp 5) false) 1,
  op 116 (.move (.tmp 16)) 1,
  op 117 (call (.func 86) #[(.global 115), (.global 116)]) 1,
  op 114 (.move (.global 117)) 1,
  op 118 (.extract (.global 114) 0) 1,
  op 119 (.extract (.global 114) 1) 1,
  op 17 (.move (.const (.agg #[(I 0), (I 0), (sl 0 0 0 0), (sl 0 0 0 0), (sl 0 0 0 0)]))),
  op 17 (.insert 5 (.tmp 17) (.tmp 17) (.global 118)),
  op 18 (.move (.global 119))])
(.seq (.seq (reg [op 120 (.move (.tmp 18)) 1,
  op 121 (.binOp .neq 0 (.global 120) (.const (I 0)) 0) 1,
  op 122 (.move (.global 121)) 1,
  op 123 (.lookup 6 (.tmp 17) (.tmp 17) false) 1 (some (489, false)),
  op 124 (call (.func 427) #[(.global 123)]) 1 (some (489, false)),
  op 125 (.unOp .not 0 (.global 124)) 1 (some (489, false)),
  op 126 (.pick (.global 122) (.const (B true)) (.global 125)) 1,
  op 127 (.move (.global 126)) 1,
  op 128 (.fieldAddr 3 (.tmp 17) 1) 1 (some (509, false)),
  op 129 (.lookup 0 (.tmp 17) (.global 128) false) 1 (some (509, false)),
  op 130 (bi .len #[(.global 129)] 1) 1 (some (509, false)),
  op 131 (.move (.tmp 16)) 1 (some (509, false)),
  op 132 (.binOp .neq 0 (.global 130) (.global 131) 0) 1 (some (509, false)),
  op 133 (.pick (.global 127) (.const (B true)) (.global 132))])
(.cond (.tmp 133)
  (.seq (reg [op 4 (.move (.const (B false)))])
  .ret)
  .skip))
(.seq (reg [op 135 (.lookup 6 (.tmp 17) (.tmp 17) false) 1,
  op 136 (.fieldAddr 3 (.tmp 5) 1) 1,
  op 137 (.lookup 0 (.tmp 5) (.global 136) false) 1,
  op 138 (bi .len #[(.global 137)] 1) 1,
  op 139 (call (.func 86) #[(.global 135), (.global 138)]) 1,
  op 134 (.move (.global 139)) 1,
  op 140 (.extract (.global 134) 0) 1,
  op 141 (.extract (.global 134) 1) 1,
  op 19 (.move (.const (.agg #[(I 0), (I 0), (sl 0 0 0 0), (sl 0 0 0 0), (sl 0 0 0 0)]))),
  op 19 (.insert 5 (.tmp 19) (.tmp 19) (.global 140)),
  op 20 (.move (.global 141))])
(.seq (reg [op 143 (.lookup 6 (.tmp 5) (.tmp 5) false) 1,
  op 144 (call (.func 133) #[(.global 143)]) 1,
  op 142 (.move (.global 144)) 1,
  op 145 (.extract (.global 142) 0) 1,
  op 146 (.extract (.global 142) 1) 1,
  op 21 (.move (.const (.agg #[(I 0), (I 0), (sl 0 0 0 0)]))),
  op 21 (.insert 3 (.tmp 21) (.tmp 21) (.global 145)),
  op 22 (.move (.global 146))])
(.seq (reg [op 148 (.lookup 6 (.tmp 17) (.tmp 17) false) 1,
  op 149 (call (.func 133) #[(.global 148)]) 1,
  op 147 (.move (.global 149)) 1,
  op 150 (.extract (.global 147) 0) 1,
  op 151 (.extract (.global 147) 1) 1,
  op 23 (.move (.const (.agg #[(I 0), (I 0), (sl 0 0 0 0)]))),
  op 23 (.insert 3 (.tmp 23) (.tmp 23) (.global 150)),
  op 24 (.move (.global 151))])
(.seq (reg [op 152 (.move (.tmp 20)) 1,
  op 153 (.binOp .eql 0 (.global 152) (.const (I 0)) 0) 1,
  op 154 (.move (.global 153)) 1,
  op 155 (.lookup 6 (.tmp 19) (.tmp 19) false) 1 (some (617, true)),
  op 156 (.lookup 6 (.tmp 5) (.tmp 5) false) 1 (some (617, true)),
  op 157 (call (.func 418) #[(.global 155), (.global 156)]) 1 (some (617, true)),
  op 158 (.pick (.global 154) (.global 157) (.const (B false))) 1,
  op 159 (.move (.global 158)) 1,
  op 160 (.move (.tmp 22)) 1 (some (637, true)),
  op 161 (.binOp .eql 0 (.global 160) (.const (I 0)) 0) 1 (some (637, true)),
  op 162 (.pick (.global 159) (.global 161) (.const (B false))) 1,
  op 163 (.move (.global 162)) 1,
  op 164 (.move (.tmp 24)) 1 (some (653, true)),
  op 165 (.binOp .eql 0 (.global 164) (.const (I 0)) 0) 1 (some (653, true)),
  op 166 (.pick (.global 163) (.global 165) (.const (B false))) 1,
  op 167 (.move (.global 166)) 1,
  op 168 (.lookup 4 (.tmp 21) (.tmp 21) false) 1 (some (669, true)),
  op 169 (.lookup 4 (.tmp 23) (.tmp 23) false) 1 (some (669, true)),
  op 170 (call (.func 420) #[(.global 168), (.global 169)]) 1 (some (669, true)),
  op 171 (.pick (.global 167) (.global 170) (.const (B false))) 1,
  op 4 (.move (.global 171))])
.ret))))))))))))), [(4, 0)]⟩

/-- laws.FnDiffs -/
def fn204 : AFun := ⟨1,
(.seq (reg [op 2 (.move (.const (B false)))])
(.seq (.seq (reg [op 30 (.move (.tmp 0)) 1,
  op 31 (call (.func 269) #[(.global 30)])])
(.cond (.tmp 31)
  (.seq (reg [op 2 (.move (.const (B true)))])
  .ret)
  .skip))
(.seq (reg [op 33 (.move (.tmp 0)) 1,
  op 34 (call (.func 352) #[(.global 33)]) 1,
  op 32 (.move (.global 34)) 1,
  op 35 (.extract (.global 32) 0) 1,
  op 36 (.extract (.global 32) 1) 1,
  op 3 (.move (.const (.agg #[(I 0), (I 0), (sl 0 0 0 0)]))),
  op 4 (.move (.const (.agg #[(I 0), (I 0), (sl 0 0 0 0)]))),
  op 3 (.insert 3 (.tmp 3) (.tmp 3) (.global 35)),
  op 4 (.insert 3 (.tmp 4) (.tmp 4) (.global 36))])
(.seq (reg [op 38 (.lookup 4 (.tmp 3) (.tmp 3) false) 1,
  op 39 (.lookup 4 (.tmp 4) (.tmp 4) false) 1,
  op 40 (call (.func 79) #[(.global 38), (.global 39)]) 1,
  op 37 (.move (.global 40)) 1,
  op 41 (.extract (.global 37) 0) 1,
  op 42 (.extract (.global 37) 1) 1,
  op 5 (.move (.global 41)),
  op 6 (.move (.global 42))])
(.seq (reg [op 44 (.lookup 4 (.tmp 3) (.tmp 3) false) 1,
  op 45 (.lookup 4 (.tmp 4) (.tmp 4) false) 1,
  op 46 (call (.func 346) #[(.global 44), (.global 45)]) 1,
  op 43 (.move (.global 46)) 1,
  op 47 (.extract (.global 43) 0) 1,
  op 48 (.extract (.global 43) 1) 1,
  op 7 (.move (.global 47)),
  op 8 (.move (.global 48))])
(.seq (reg [op 50 (.move (.tmp 0)) 1,
  op 51 (call (.func 350) #[(.global 50)]) 1,
  op 49 (.move (.global 51)) 1,
  op 52 (.extract (.global 49) 0) 1,
  op 53 (.extract (.global 49) 1) 1,
  op 9 (.move (.const (.agg #[(I 0), (I 0), (sl 0 0 0 0)]))),
  op 9 (.insert 3 (.tmp 9) (.tmp 9) (.global 52)),
  op 10 (.move (.global 53))])
(.seq (reg [op 55 (.lookup 4 (.tmp 9) (.tmp 9) false) 1,
  op 56 (.move (.tmp 10)) 1,
  op 57 (call (.func 62) #[(.global 55), (.global 56)]) 1,
  op 54 (.move (.global 57)) 1,
  op 58 (.extract (.global 54) 0) 1,
  op 59 (.extract (.global 54) 1) 1,
  op 11 (.move (.const (.agg #[(I 0), (I 0), (sl 0 0 0 0)]))),
  op 11 (.insert 3 (.tmp 11) (.tmp 11) (.global 58)),
  op 12 (.move (.global 59))])
(.seq (reg [op 61 (.lookup 4 (.tmp 9) (.tmp 9) false) 1,
  op 62 (.move (.tmp 10)) 1,
  op 63 (call (.func 331) #[(.global 61), (.global 62)]) 1,
  op 60 (.move (.global 63)) 1,
  op 64 (.extract (.global 60) 0) 1,
  op 65 (.extract (.global 60) 1) 1,
  op 13 (.move (.const (.agg #[(I 0), (I 0), (sl 0 0 0 0)]))),
  op 13 (.insert 3 (.tmp 13) (.tmp 13) (.global 64)),
  op 14 (.move (.global 65))])
(.seq (reg [op 66 (.move (.tmp 0)) 1,
  op 67 (call (.func 353) #[(.global 66)]) 1,
  op 15 (.move (.global 67))])
(.seq (reg [op 68 (.move (.tmp 15)) 1,
  op 69 (call (.func 80) #[(.global 68)]) 1,
  op 16 (.move (.global 69))])
(.seq (reg [op 71 (.move (.tmp 16)) 1,
  op 72 (call (.func 119) #[(.global 71)]) 1,
  op 70 (.move (.global 72)) 1,
  op 73 (.extract (.global 70) 0) 1,
  op 74 (.extract (.global 70) 1) 1,
  op 17 (.move (.global 73)),
  op 18 (.move (.global 74))])
(.seq (reg [op 75 (.move (.tmp 0)) 1,
  op 76 (call (.func 368) #[(.global 75)]) 1,
  op 19 (.move (.global 76))])
(.seq (reg [op 78 (.move (.tmp 19)) 1,
  op 79 (call (.func 119) #[(.global 78)]) 1,
  op 77 (.move (.global 79)) 1,
  op 80 (.extract (.global 77) 0) 1,
  op 81 (.extract (.global 77) 1) 1,
  op 20 (.move (.global 80)),
  op 21 (.move (.global 81))])
(.seq (reg [op 83 (.move (.tmp 19)) 1,
  op 84 (call (.func 410) #[(.global 83)]) 1,
  op 82 (.move (.global 84)) 1,
  op 85 (.extract (.global 82) 0) 1,
  op 86 (.extract (.global 82) 1) 1,
  op 22 (.move (.global 85)),
  op 23 (.move (.global 86))])
(.seq (.seq (reg [op 87 (.move (.tmp 6)) 1,
  op 88 (.move (.tmp 8)) 1,
  op 89 (.binOp .neq 0 (.global 87) (.global 88) 0) 1,
  op 90 (.move (.global 89)) 1,
  op 91 (.move (.tmp 5)) 1 (some (361, false)),
  op 92 (.move (.tmp 7)) 1 (some (361, false)),
  op 93 (call (.func 270) #[(.global 91), (.global 92)]) 1 (some (361, false)),
  op 94 (.unOp .not 0 (.global 93)) 1 (some (361, false)),
  op 95 (.pick (.global 90) (.const (B true)) (.global 94)) 1,
  op 96 (.move (.global 95)) 1,
  op 97 (.move (.tmp 12)) 1 (some (385, false)),
  op 98 (.move (.tmp 14)) 1 (some (385, false)),
  op 99 (.binOp .neq 0 (.global 97) (.global 98) 0) 1 (some (385, false)),
  op 100 (.pick (.global 96) (.const (B true)) (.global 99)) 1,
  op 101 (.move (.global 100)) 1,
  op 102 (.lookup 4 (.tmp 11) (.tmp 11) false) 1 (some (405, false)),
  op 103 (.lookup 4 (.tmp 13) (.tmp 13) false) 1 (some (405, false)),
  op 104 (call (.func 420) #[(.global 102), (.global 103)]) 1 (some (405, false)),
  op 105 (.unOp .not 0 (.global 104)) 1 (some (405, false)),
  op 106 (.pick (.global 101) (.const (B true)) (.global 105)) 1,
  op 107 (.move (.global 106)) 1,
  op 108 (.move (.tmp 16)) 1 (some (429, false)),
  op 109 (.move (.tmp 15)) 1 (some (429, false)),
  op 110 (call (.func 347) #[(.global 109)]) 1 (some (429, false)),
  op 111 (.binOp .neq 0 (.global 108) (.global 110) 0) 1 (some (429, false)),
  op 112 (.pick (.global 107) (.const (B true)) (.global 111)) 1,
  op 113 (.move (.global 112)) 1,
  op 114 (.move (.tmp 16)) 1 (some (453, false)),
  op 115 (.binOp .neq 0 (.global 114) (.const (S [])) 0) 1 (some (453, false)),
  op 116 (.move (.global 115)) 1 (some (455, false)),
  op 117 (.move (.tmp 18)) 1 (some (465, true)),
  op 118 (.unOp .not 0 (.global 117)) 1 (some (465, true)),
  op 119 (.move (.global 118)) 1 (some (467, true)),
  op 120 (.move (.tmp 17)) 1 (some (477, false)),
  op 121 (.move (.tmp 15)) 1 (some (477, false)),
  op 122 (call (.func 270) #[(.global 120), (.global 121)]) 1 (some (477, false)),
  op 123 (.unOp .not 0 (.global 122)) 1 (some (477, false)),
  op 124 (.pick (.global 119) (.const (B true)) (.global 123)) 1 (some (465, true)),
  op 125 (.pick (.global 116) (.global 124) (.const (B false))) 1 (some (453, false)),
  op 126 (.pick (.global 113) (.const (B true)) (.global 125)) 1,
  op 127 (.move (.global 126)) 1,
  op 128 (.move (.tmp 21)) 1 (some (509, false)),
  op 129 (.move (.tmp 23)) 1 (some (509, false)),
  op 130 (.binOp .neq 1 (.global 128) (.global 129) 0) 1 (some (509, false)),
  op 131 (.pick (.global 127) (.const (B true)) (.global 130)) 1,
  op 132 (.move (.global 131)) 1,
  op 133 (.move (.tmp 20)) 1 (some (529, false)),
  op 134 (.move (.tmp 22)) 1 (some (529, false)),
  op 135 (call (.func 270) #[(.global 133), (.global 134)]) 1 (some (529, false)),
  op 136 (.unOp .not 0 (.global 135)) 1 (some (529, false)),
  op 137 (.pick (.global 132) (.const (B true)) (.global 136)) 1,
  op 138 (.move (.global 137)) 1,
  op 139 (.move (.tmp 15)) 1 (some (553, false)),
  op 140 (call (.func 89) #[(.global 139)]) 1 (some (553, false)),
  op 141 (.move (.tmp 15)) 1 (some (553, false)),
  op 142 (call (.func 382) #[(.global 141)]) 1 (some (553, false)),
  op 143 (call (.func 270) #[(.global 140), (.global 142)]) 1 (some (553, false)),
  op 144 (.unOp .not 0 (.global 143)) 1 (some (553, false)),
  op 145 (.pick (.global 138) (.const (B true)) (.global 144))])
(.cond (.tmp 145)
  (.seq (reg [op 2 (.move (.const (B false)))])
  .ret)
  .skip))
(.seq (.seq (reg [op 146 (.move (.tmp 12)) 1,
  op 147 (.binOp .eql 0 (.global 146) (.const (I 0)) 0)])
(.cond (.tmp 147)
  (.seq (reg [op 149 (.lookup 4 (.tmp 11) (.tmp 11) false) 1,
    op 150 (.move (.tmp 10)) 1,
    op 151 (call (.func 89) #[(.global 150)]) 1,
    op 152 (call (.func 62) #[(.global 149), (.global 151)]) 1,
    op 148 (.move (.global 152)) 1,
    op 153 (.extract (.global 148) 0) 1,
    op 154 (.extract (.global 148) 1) 1,
    op 24 (.move (.const (.agg #[(I 0), (I 0), (sl 0 0 0 0)]))),
    op 24 (.insert 3 (.tmp 24) (.tmp 24) (.global 153)),
    op 25 (.move (.global 154))])
  (.seq (reg [op 155 (.move (.tmp 25)) 1,
    op 156 (.binOp .neq 0 (.global 155) (.const (I 0)) 0) 1,
    op 157 (.move (.global 156)) 1,
    op 158 (.lookup 4 (.tmp 24) (.tmp 24) false) 1 (some (629, false)),
    op 159 (.lookup 4 (.tmp 9) (.tmp 9) false) 1 (some (629, false)),
    op 160 (call (.func 420) #[(.global 158), (.global 159)]) 1 (some (629, false)),
    op 161 (.unOp .not 0 (.global 160)) 1 (some (629, false)),
    op 162 (.pick (.global 157) (.const (B true)) (.global 161))])
  (.cond (.tmp 162)
    (.seq (reg [op 2 (.move (.const (B false)))])
    .ret)
    .skip)))
  .skip))
(.seq (.seq (reg [op 163 (.move (.tmp 6)) 1,
  op 164 (.binOp .neq 0 (.global 163) (.const (I 0)) 0)])
(.cond (.tmp 164)
  (.seq (reg [op 2 (.move (.const (B true)))])
  .ret)
  .skip))
(.seq (reg [op 166 (.lookup 4 (.tmp 3) (.tmp 3) false) 1,
  op 167 (.move (.tmp 5)) 1,
  op 168 (call (.func 62) #[(.global 166), (.global 167)]) 1,
  op 165 (.move (.global 168)) 1,
  op 169 (.extract (.global 165) 0) 1,
  op 170 (.extract (.global 165) 1) 1,
  op 26 (.move (.const (.agg #[(I 0), (I 0), (sl 0 0 0 0)]))),
  op 26 (.insert 3 (.tmp 26) (.tmp 26) (.global 169)),
  op 27 (.move (.global 170))])
(.seq (reg [op 172 (.lookup 4 (.tmp 3) (.tmp 3) false) 1,
  op 173 (.lookup 4 (.tmp 4) (.tmp 4) false) 1,
  op 174 (call (.func 81) #[(.global 172), (.global 173)]) 1,
  op 171 (.move (.global 174)) 1,
  op 175 (.extract (.global 171) 0) 1,
  op 176 (.extract (.global 171) 1) 1,
  op 28 (.move (.global 175)),
  op 29 (.move (.global 176))])
(.seq (reg [op 177 (.move (.tmp 27)) 1,
  op 178 (.binOp .eql 0 (.global 177) (.const (I 0)) 0) 1,
  op 179 (.move (.global 178)) 1,
  op 180 (.lookup 4 (.tmp 26) (.tmp 26) false) 1 (some (717, true)),
  op 181 (.lookup 4 (.tmp 4) (.tmp 4) false) 1 (some (717, true)),
  op 182 (call (.func 420) #[(.global 180), (.global 181)]) 1 (some (717, true)),
  op 183 (.pick (.global 179) (.global 182) (.const (B false))) 1,
  op 184 (.move (.global 183)) 1,
  op 185 (.move (.tmp 29)) 1 (some (737, true)),
  op 186 (.binOp .eql 0 (.global 185) (.const (I 0)) 0) 1 (some (737, true)),
  op 187 (.pick (.global 184) (.global 186) (.const (B false))) 1,
  op 188 (.move (.global 187)) 1,
  op 189 (.move (.tmp 28)) 1 (some (753, true)),
  op 190 (.move (.tmp 5)) 1 (some (753, true)),
  op 191 (bi .len #[(.global 190)] 1) 1 (some (753, true)),
  op 192 (.binOp .eql 0 (.global 189) (.global 191) 0) 1 (some (753, true)),
  op 193 (.pick (.global 188) (.global 192) (.const (B false))) 1,
  op 2 (.move (.global 193))])
.ret)))))))))))))))))))), [(2, 0)]⟩

/-- laws.FnMergedPanels -/
def fn253 : AFun := ⟨1,
(.seq (reg [op 2 (.move (.const (B false)))])
(.seq (.seq (reg [op 47 (.move (.tmp 0)) 1,
  op 48 (call (.func 269) #[(.global 47)])])
(.cond (.tmp 48)
  (.seq (reg [op 2 (.move (.const (B true)))])
  .ret)
  .skip))
(.seq (reg [op 50 (.move (.tmp 0)) 1,
  op 51 (call (.func 359) #[(.global 50)]) 1,
  op 49 (.move (.global 51)) 1,
  op 52 (.extract (.global 49) 0) 1,
  op 53 (.extract (.global 49) 1) 1,
  op 54 (.extract (.global 49) 2) 1,
  op 3 (.move (.const (.agg #[(I 0), (I 0), (sl 0 0 0 0)]))),
  op 4 (.move (.const (.agg #[(I 0), (I 0), (sl 0 0 0 0)]))),
  op 5 (.move (.const (.agg #[(I 0), (I 0), (sl 0 0 0 0)]))),
  op 3 (.insert 3 (.tmp 3) (.tmp 3) (.global 52)),
  op 4 (.insert 3 (.tmp 4) (.tmp 4) (.global 53)),
  op 5 (.insert 3 (.tmp 5) (.tmp 5) (.global 54))])
(.seq (reg [op 56 (.lookup 4 (.tmp 3) (.tmp 3) false) 1,
  op 57 (.lookup 4 (.tmp 4) (.tmp 4) false) 1,
  op 58 (.lookup 4 (.tmp 5) (.tmp 5) false) 1,
  op 59 (call (.func 98) #[(.global 56), (.global 57), (.global 58)]) 1,
  op 55 (.move (.global 59)) 1,
  op 60 (.extract (.global 55) 0) 1,
  op 61 (.extract (.global 55) 1) 1,
  op 6 (.move (.const (.agg #[(I 0), (I 0), (sl 0 0 0 0)]))),
  op 6 (.insert 3 (.tmp 6) (.tmp 6) (.global 60)),
  op 7 (.move (.global 61))])
(.seq (reg [op 63 (.lookup 4 (.tmp 3) (.tmp 3) false) 1,
  op 64 (.lookup 4 (.tmp 4) (.tmp 4) false) 1,
  op 65 (.lookup 4 (.tmp 5) (.tmp 5) false) 1,
  op 66 (call (.func 391) #[(.global 63), (.global 64), (.global 65)]) 1,
  op 62 (.move (.global 66)) 1,
  op 67 (.extract (.global 62) 0) 1,
  op 68 (.extract (.global 62) 1) 1,
  op 8 (.move (.const (.agg #[(I 0), (I 0), (sl 0 0 0 0)]))),
  op 8 (.insert 3 (.tmp 8) (.tmp 8) (.global 67)),
  op 9 (.move (.global 68))])
(.seq (reg [op 70 (.lookup 4 (.tmp 3) (.tmp 3) false) 1,
  op 71 (.lookup 4 (.tmp 4) (.tmp 4) false) 1,
  op 72 (.lookup 4 (.tmp 5) (.tmp 5) false) 1,
  op 73 (call (.func 65) #[(.global 70), (.global 71), (.global 72)]) 1,
  op 69 (.move (.global 73)) 1,
  op 74 (.extract (.global 69) 0) 1,
  op 75 (.extract (.global 69) 1) 1,
  op 10 (.move (.global 74)),
  op 11 (.move (.global 75))])
(.seq (reg [op 77 (.lookup 4 (.tmp 3) (.tmp 3) false) 1,
  op 78 (.lookup 4 (.tmp 4) (.tmp 4) false) 1,
  op 79 (.lookup 4 (.tmp 5) (.tmp 5) false) 1,
  op 80 (call (.func 334) #[(.global 77), (.global 78), (.global 79)]) 1,
  op 76 (.move (.global 80)) 1,
  op 81 (.extract (.global 76) 0) 1,
  op 82 (.extract (.global 76) 1) 1,
  op 12 (.move (.global 81)),
  op 13 (.move (.global 82))])
(.seq (reg [op 84 (.move (.tmp 0)) 1,
  op 85 (call (.func 365) #[(.global 84)]) 1,
  op 83 (.move (.global 85)) 1,
  op 86 (.extract (.global 83) 0) 1,
  op 87 (.extract (.global 83) 1) 1,
  op 88 (.extract (.global 83) 2) 1,
  op 89 (.extract (.global 83) 3) 1,
  op 14 (.move (.const (.agg #[(I 0), (I 0), (sl 0 0 0 0)]))),
  op 17 (.move (.const (.agg #[(I 0), (I 0), (sl 0 0 0 0)]))),
  op 14 (.insert 3 (.tmp 14) (.tmp 14) (.global 86)),
  op 15 (.move (.global 87)),
  op 16 (.move (.global 88)),
  op 17 (.insert 3 (.tmp 17) (.tmp 17) (.global 89))])
(.seq (reg [op 91 (.lookup 4 (.tmp 14) (.tmp 14) false) 1,
  op 92 (.move (.tmp 15)) 1,
  op 93 (.move (.tmp 16)) 1,
  op 94 (.lookup 4 (.tmp 17) (.tmp 17) false) 1,
  op 95 (call (.func 114) #[(.global 91), (.global 92), (.global 93), (.global 94)]) 1,
  op 90 (.move (.global 95)) 1,
  op 96 (.extract (.global 90) 0) 1,
  op 97 (.extract (.global 90) 1) 1,
  op 18 (.move (.const (.agg #[(I 0), (I 0), (sl 0 0 0 0)]))),
  op 18 (.insert 3 (.tmp 18) (.tmp 18) (.global 96)),
  op 19 (.move (.global 97))])
(.seq (reg [op 99 (.lookup 4 (.tmp 14) (.tmp 14) false) 1,
  op 100 (.move (.tmp 15)) 1,
  op 101 (.move (.tmp 16)) 1,
  op 102 (.lookup 4 (.tmp 17) (.tmp 17) false) 1,
  op 103 (call (.func 406) #[(.global 99), (.global 100), (.global 101), (.global 102)]) 1,
  op 98 (.move (.global 103)) 1,
  op 104 (.extract (.global 98) 0) 1,
  op 105 (.extract (.global 98) 1) 1,
  op 20 (.move (.const (.agg #[(I 0), (I 0), (sl 0 0 0 0)]))),
  op 20 (.insert 3 (.tmp 20) (.tmp 20) (.global 104)),
  op 21 (.move (.global 105))])
(.seq (reg [op 107 (.move (.tmp 0)) 1,
  op 108 (call (.func 364) #[(.global 107)]) 1,
  op 106 (.move (.global 108)) 1,
  op 109 (.extract (.global 106) 0) 1,
  op 110 (.extract (.global 106) 1) 1,
  op 111 (.extract (.global 106) 2) 1,
  op 112 (.extract (.global 106) 3) 1,
  op 113 (.extract (.global 106) 4) 1,
  op 22 (.move (.const (.agg #[(I 0), (I 0), (sl 0 0 0 0)]))),
  op 22 (.insert 3 (.tmp 22) (.tmp 22) (.global 109)),
  op 23 (.move (.global 110)),
  op 24 (.move (.global 111)),
  op 25 (.move (.global 112)),
  op 26 (.move (.global 113))])
(.seq (reg [op 115 (.lookup 4 (.tmp 22) (.tmp 22) false) 1,
  op 116 (.move (.tmp 23)) 1,
  op 117 (.move (.tmp 24)) 1,
  op 118 (.move (.tmp 25)) 1,
  op 119 (.move (.tmp 26)) 1,
  op 120 (call (.func 111) #[(.global 115), (.global 116), (.global 117), (.global 118), (.global 119)]) 1,
  op 114 (.move (.global 120)) 1,
  op 121 (.extract (.global 114) 0) 1,
  op 122 (.extract (.global 114) 1) 1,
  op 27 (.move (.const (.agg #[(I 0), (I 0), (sl 0 0 0 0)]))),
  op 27 (.insert 3 (.tmp 27) (.tmp 27) (.global 121)),
  op 28 (.move (.global 122))])
(.seq (reg [op 124 (.lookup 4 (.tmp 22) (.tmp 22) false) 1,
  op 125 (.move (.tmp 23)) 1,
  op 126 (.move (.tmp 24)) 1,
  op 127 (.move (.tmp 25)) 1,
  op 128 (.move (.tmp 26)) 1,
  op 129 (call (.func 403) #[(.global 124), (.global 125), (.global 126), (.global 127), (.global 128)]) 1,
  op 123 (.move (.global 129)) 1,
  op 130 (.extract (.global 123) 0) 1,
  op 131 (.extract (.global 123) 1) 1,
  op 29 (.move (.const (.agg #[(I 0), (I 0), (sl 0 0 0 0)]))),
  op 29 (.insert 3 (.tmp 29) (.tmp 29) (.global 130)),
  op 30 (.move (.global 131))])
(.seq (reg [op 133 (.move (.tmp 0)) 1,
  op 134 (call (.func 355) #[(.global 133)]) 1,
  op 132 (.move (.global 134)) 1,
  op 135 (.extract (.global 132) 0) 1,
  op 136 (.extract (.global 132) 1) 1,
  op 31 (.move (.const (.agg #[(I 0), (I 0), (sl 0 0 0 0)]))),
  op 32 (.move (.const (.agg #[(I 0), (I 0), (sl 0 0 0 0)]))),
  op 31 (.insert 3 (.tmp 31) (.tmp 31) (.global 135)),
  op 32 (.insert 3 (.tmp 32) (.tmp 32) (.global 136))])
(.seq (reg [op 138 (.lookup 4 (.tmp 31) (.tmp 31) false) 1,
  op 139 (.lookup 4 (.tmp 32) (.tmp 32) false) 1,
  op 140 (call (.func 92) #[(.global 138), (.global 139)]) 1,
  op 137 (.move (.global 140)) 1,
  op 141 (.extract (.global 137) 0) 1,
  op 142 (.extract (.global 137) 1) 1,
  op 33 (.move (.const (.agg #[(I 0), (I 0), (sl 0 0 0 0)]))),
  op 33 (.insert 3 (.tmp 33) (.tmp 33) (.global 141)),
  op 34 (.move (.global 142))])
(.seq (reg [op 144 (.lookup 4 (.tmp 31) (.tmp 31) false) 1,
  op 145 (.lookup 4 (.tmp 32) (.tmp 32) false) 1,
  op 146 (call (.func 384) #[(.global 144), (.global 145)]) 1,
  op 143 (.move (.global 146)) 1,
  op 147 (.extract (.global 143) 0) 1,
  op 148 (.extract (.global 143) 1) 1,
  op 35 (.move (.const (.agg #[(I 0), (I 0), (sl 0 0 0 0)]))),
  op 35 (.insert 3 (.tmp 35) (.tmp 35) (.global 147)),
  op 36 (.move (.global 148))])
(.seq (.seq (reg [op 149 (.move (.tmp 7)) 1,
  op 150 (.move (.tmp 9)) 1,
  op 151 (.binOp .neq 0 (.global 149) (.global 150) 0) 1,
  op 152 (.move (.global 151)) 1,
  op 153 (.lookup 4 (.tmp 6) (.tmp 6) false) 1 (some (609, false)),
  op 154 (.lookup 4 (.tmp 8) (.tmp 8) false) 1 (some (609, false)),
  op 155 (call (.func 420) #[(.global 153), (.global 154)]) 1 (some (609, false)),
  op 156 (.unOp .not 0 (.global 155)) 1 (some (609, false)),
  op 157 (.pick (.global 152) (.const (B true)) (.global 156)) 1,
  op 158 (.move (.global 157)) 1,
  op 159 (.move (.tmp 11)) 1 (some (633, false)),
  op 160 (.move (.tmp 13)) 1 (some (633, false)),
  op 161 (.binOp .neq 0 (.global 159) (.global 160) 0) 1 (some (633, false)),
  op 162 (.pick (.global 158) (.const (B true)) (.global 161)) 1,
  op 163 (.move (.global 162)) 1,
  op 164 (.move (.tmp 10)) 1 (some (653, false)),
  op 165 (.move (.tmp 12)) 1 (some (653, false)),
  op 166 (call (.func 271) #[(.global 164), (.global 165)]) 1 (some (653, false)),
  op 167 (.unOp .not 0 (.global 166)) 1 (some (653, false)),
  op 168 (.pick (.global 163) (.const (B true)) (.global 167)) 1,
  op 169 (.move (.global 168)) 1,
  op 170 (.move (.tmp 19)) 1 (some (677, false)),
  op 171 (.move (.tmp 21)) 1 (some (677, false)),
  op 172 (.binOp .neq 0 (.global 170) (.global 171) 0) 1 (some (677, false)),
  op 173 (.pick (.global 169) (.const (B true)) (.global 172)) 1,
  op 174 (.move (.global 173)) 1,
  op 175 (.lookup 4 (.tmp 18) (.tmp 18) false) 1 (some (697, false)),
  op 176 (.lookup 4 (.tmp 20) (.tmp 20) false) 1 (some (697, false)),
  op 177 (call (.func 420) #[(.global 175), (.global 176)]) 1 (some (697, false)),
  op 178 (.unOp .not 0 (.global 177)) 1 (some (697, false)),
  op 179 (.pick (.global 174) (.const (B true)) (.global 178)) 1,
  op 180 (.move (.global 179)) 1,
  op 181 (.move (.tmp 28)) 1 (some (721, false)),
  op 182 (.move (.tmp 30)) 1 (some (721, false)),
  op 183 (.binOp .neq 0 (.global 181) (.global 182) 0) 1 (some (721, false)),
  op 184 (.pick (.global 180) (.const (B true)) (.global 183)) 1,
  op 185 (.move (.global 184)) 1,
  op 186 (.lookup 4 (.tmp 27) (.tmp 27) false) 1 (some (741, false)),
  op 187 (.lookup 4 (.tmp 29) (.tmp 29) false) 1 (some (741, false)),
  op 188 (call (.func 420) #[(.global 186), (.global 187)]) 1 (some (741, false)),
  op 189 (.unOp .not 0 (.global 188)) 1 (some (741, false)),
  op 190 (.pick (.global 185) (.const (B true)) (.global 189)) 1,
  op 191 (.move (.global 190)) 1,
  op 192 (.move (.tmp 34)) 1 (some (765, false)),
  op 193 (.move (.tmp 36)) 1 (some (765, false)),
  op 194 (.binOp .neq 0 (.global 192) (.global 193) 0) 1 (some (765, false)),
  op 195 (.pick (.global 191) (.const (B true)) (.global 194)) 1,
  op 196 (.move (.global 195)) 1,
  op 197 (.lookup 4 (.tmp 33) (.tmp 33) false) 1 (some (785, false)),
  op 198 (.lookup 4 (.tmp 35) (.tmp 35) false) 1 (some (785, false)),
  op 199 (call (.func 420) #[(.global 197), (.global 198)]) 1 (some (785, false)),
  op 200 (.unOp .not 0 (.global 199)) 1 (some (785, false)),
  op 201 (.pick (.global 196) (.const (B true)) (.global 200))])
(.cond (.tmp 201)
  (.seq (reg [op 2 (.move (.const (B false)))])
  .ret)
  .skip))
(.seq (.seq (reg [op 202 (.move (.tmp 19)) 1,
  op 203 (.binOp .eql 0 (.global 202) (.const (I 0)) 0)])
(.cond (.tmp 203)
  (.seq (reg [op 205 (.lookup 4 (.tmp 18) (.tmp 18) false) 1,
    op 206 (.move (.tmp 15)) 1,
    op 207 (.move (.tmp 16)) 1,
    op 208 (.fieldAddr 0 (.tmp 17) 1) 1,
    op 209 (.lookup 0 (.tmp 17) (.global 208) false) 1,
    op 210 (.fieldAddr 1 (.tmp 17) 1) 1,
    op 211 (.lookup 0 (.tmp 17) (.global 210) false) 1,
    op 212 (call (.func 111) #[(.global 205), (.global 206), (.global 207), (.global 209), (.global 211)]) 1,
    op 204 (.move (.global 212)) 1,
    op 213 (.extract (.global 204) 0) 1,
    op 214 (.extract (.global 204) 1) 1,
    op 37 (.move (.const (.agg #[(I 0), (I 0), (sl 0 0 0 0)]))),
    op 37 (.insert 3 (.tmp 37) (.tmp 37) (.global 213)),
    op 38 (.move (.global 214))])
  (.seq (reg [op 215 (.move (.tmp 38)) 1,
    op 216 (.binOp .neq 0 (.global 215) (.const (I 0)) 0) 1,
    op 217 (.move (.global 216)) 1,
    op 218 (.lookup 4 (.tmp 37) (.tmp 37) false) 1 (some (869, false)),
    op 219 (.lookup 4 (.tmp 17) (.tmp 17) false) 1 (some (869, false)),
    op 220 (call (.func 420) #[(.global 218), (.global 219)]) 1 (some (869, false)),
    op 221 (.unOp .not 0 (.global 220)) 1 (some (869, false)),
    op 222 (.pick (.global 217) (.const (B true)) (.global 221))])
  (.cond (.tmp 222)
    (.seq (reg [op 2 (.move (.const (B false)))])
    .ret)
    .skip)))
  .skip))
(.seq (.seq (reg [op 223 (.move (.tmp 34)) 1,
  op 224 (.binOp .eql 0 (.global 223) (.const (I 0)) 0)])
(.cond (.tmp 224)
  (.seq (reg [op 226 (.lookup 4 (.tmp 31) (.tmp 31) false) 1,
    op 227 (call (.func 340) #[(.global 226)]) 1,
    op 225 (.move (.global 227)) 1,
    op 228 (.extract (.global 225) 0) 1,
    op 229 (.extract (.global 225) 1) 1,
    op 39 (.move (.global 228)),
    op 40 (.move (.global 229))])
  (.seq (reg [op 231 (.lookup 4 (.tmp 32) (.tmp 32) false) 1,
    op 232 (call (.func 340) #[(.global 231)]) 1,
    op 230 (.move (.global 232)) 1,
    op 233 (.extract (.global 230) 0) 1,
    op 234 (.extract (.global 230) 1) 1,
    op 41 (.move (.global 233)),
    op 42 (.move (.global 234))])
  (.seq (reg [op 236 (.lookup 4 (.tmp 33) (.tmp 33) false) 1,
    op 237 (call (.func 72) #[(.global 236)]) 1,
    op 235 (.move (.global 237)) 1,
    op 238 (.extract (.global 235) 0) 1,
    op 239 (.extract (.global 235) 1) 1,
    op 43 (.move (.global 238)),
    op 44 (.move (.global 239))])
  (.seq (reg [op 240 (.move (.tmp 40)) 1,
    op 241 (.binOp .neq 0 (.global 240) (.const (I 0)) 0) 1,
    op 242 (.move (.global 241)) 1,
    op 243 (.move (.tmp 42)) 1 (some (969, false)),
    op 244 (.binOp .neq 0 (.global 243) (.const (I 0)) 0) 1 (some (969, false)),
    op 245 (.pick (.global 242) (.const (B true)) (.global 244)) 1,
    op 246 (.move (.global 245)) 1,
    op 247 (.move (.tmp 44)) 1 (some (985, false)),
    op 248 (.binOp .neq 0 (.global 247) (.const (I 0)) 0) 1 (some (985, false)),
    op 249 (.pick (.global 246) (.const (B true)) (.global 248)) 1,
    op 250 (.move (.global 249)) 1,
    op 251 (.move (.tmp 43)) 1 (some (1001, false)),
    op 252 (.move (.tmp 39)) 1 (some (1001, false)),
    op 253 (.move (.tmp 41)) 1 (some (1001, false)),
    op 254 (.binOp .add 0 (.global 252) (.global 253) 0) 1 (some (1001, false)),
    op 255 (.binOp .neq 0 (.global 251) (.global 254) 0) 1 (some (1001, false)),
    op 256 (.pick (.global 250) (.const (B true)) (.global 255))])
  (.cond (.tmp 256)
    (.seq (reg [op 2 (.move (.const (B false)))])
    .ret)
    .skip)))))
  .skip))
(.seq (reg [op 258 (.lookup 4 (.tmp 3) (.tmp 3) false) 1,
  op 259 (.lookup 4 (.tmp 5) (.tmp 5) false) 1,
  op 260 (.lookup 4 (.tmp 4) (.tmp 4) false) 1,
  op 261 (call (.func 98) #[(.global 258), (.global 259), (.global 260)]) 1,
  op 257 (.move (.global 261)) 1,
  op 262 (.extract (.global 257) 0) 1,
  op 263 (.extract (.global 257) 1) 1,
  op 45 (.move (.const (.agg #[(I 0), (I 0), (sl 0 0 0 0)]))),
  op 45 (.insert 3 (.tmp 45) (.tmp 45) (.global 262)),
  op 46 (.move (.global 263))])
(.seq (reg [op 264 (.move (.tmp 46)) 1,
  op 265 (.move (.tmp 7)) 1,
  op 266 (.binOp .eql 0 (.global 264) (.global 265) 0) 1,
  op 267 (.move (.global 266)) 1,
  op 268 (.lookup 4 (.tmp 45) (.tmp 45) false) 1 (some (1069, true)),
  op 269 (.lookup 4 (.tmp 6) (.tmp 6) false) 1 (some (1069, true)),
  op 270 (call (.func 420) #[(.global 268), (.global 269)]) 1 (some (1069, true)),
  op 271 (.pick (.global 267) (.global 270) (.const (B false))) 1,
  op 2 (.move (.global 271))])
.ret))))))))))))))))))))), [(2, 0)]⟩

/-- laws.FnExactCurvesAlong -/
def fn209 : AFun := ⟨1,
(.seq (reg [op 1 (.makeChan 5 (.tmp 0)),
  op 2 (.move (.const (B false)))])
(.seq (reg [op 3 (.move (.const (I 1048576)))])
(.seq (reg [op 14 (.lookup 6 (.tmp 1) (.tmp 1) false) 1,
  op 15 (.move (.tmp 3)) 1,
  op 16 (call (.func 291) #[(.global 14), (.global 15)]) 1,
  op 3 (.move (.global 16))])
(.seq (.seq (reg [op 17 (.move (.tmp 3)) 1,
  op 18 (.binOp .lss 0 (.global 17) (.const (I 0)) 0)])
(.cond (.tmp 18)
  (.seq (reg [op 2 (.move (.const (B true)))])
  .ret)
  .skip))
(.seq (reg [op 20 (.lookup 6 (.tmp 1) (.tmp 1) false) 1,
  op 21 (call (.func 298) #[(.global 20)]) 1,
  op 22 (call (.func 342) #[(.global 21)]) 1,
  op 19 (.move (.global 22)) 1,
  op 23 (.extract (.global 19) 0) 1,
  op 24 (.extract (.global 19) 1) 1,
  op 4 (.move (.global 23)),
  op 5 (.move (.global 24))])
(.seq (reg [op 25 (.lookup 6 (.tmp 1) (.tmp 1) false) 1,
  op 26 (call (.func 298) #[(.global 25)]) 1,
  op 6 (.move (.const (.agg #[(I 0), (I 0), (sl 0 0 0 0), (sl 0 0 0 0), (sl 0 0 0 0)]))),
  op 6 (.insert 5 (.tmp 6) (.tmp 6) (.global 26))])
(.seq (reg [op 28 (.lookup 6 (.tmp 6) (.tmp 6) false) 1,
  op 29 (call (.func 74) #[(.global 28)]) 1,
  op 27 (.move (.global 29)) 1,
  op 30 (.extract (.global 27) 0) 1,
  op 31 (.extract (.global 27) 1) 1,
  op 7 (.move (.global 30)),
  op 8 (.move (.global 31))])
(.seq (.seq (reg [op 32 (.move (.tmp 7)) 1,
  op 33 (.move (.tmp 4)) 1,
  op 34 (call (.func 259) #[(.global 32), (.global 33)]) 1,
  op 35 (.unOp .not 0 (.global 34)) 1,
  op 36 (.move (.global 35)) 1,
  op 37 (.move (.tmp 8)) 1 (some (145, false)),
  op 38 (.move (.tmp 5)) 1 (some (145, false)),
  op 39 (.binOp .neq 0 (.global 37) (.global 38) 0) 1 (some (145, false)),
  op 40 (.pick (.global 36) (.const (B true)) (.global 39))])
(.cond (.tmp 40)
  (.seq (reg [op 2 (.move (.const (B false)))])
  .ret)
  .skip))
(.seq (.seq (reg [op 41 (.lookup 6 (.tmp 6) (.tmp 6) false) 1,
  op 42 (.lookup 6 (.tmp 1) (.tmp 1) false) 1,
  op 43 (call (.func 298) #[(.global 42)]) 1,
  op 44 (call (.func 260) #[(.global 41), (.global 43)]) 1,
  op 45 (.unOp .not 0 (.global 44))])
(.cond (.tmp 45)
  (.seq (reg [op 2 (.move (.const (B false)))])
  .ret)
  .skip))
(.seq (reg [op 9 (.move (.const (I 1)))])
(.seq (reg [op 46 (.lookup 6 (.tmp 6) (.tmp 6) false) 1,
  op 47 (.move (.tmp 9)) 1,
  op 48 (call (.func 283) #[(.global 46), (.global 47)]) 1,
  op 9 (.move (.global 48))])
(.seq (.seq (reg [op 49 (.move (.tmp 9)) 1,
  op 50 (.binOp .lss 0 (.global 49) (.const (I 0)) 0) 1,
  op 51 (.move (.global 50)) 1,
  op 52 (.move (.tmp 7)) 1 (some (205, false)),
  op 53 (.move (.tmp 4)) 1 (some (205, false)),
  op 54 (call (.func 259) #[(.global 52), (.global 53)]) 1 (some (205, false)),
  op 55 (.unOp .not 0 (.global 54)) 1 (some (205, false)),
  op 56 (.pick (.global 51) (.const (B true)) (.global 55)) 1,
  op 57 (.move (.global 56)) 1,
  op 58 (.move (.tmp 8)) 1 (some (229, false)),
  op 59 (.move (.tmp 5)) 1 (some (229, false)),
  op 60 (.binOp .neq 0 (.global 58) (.global 59) 0) 1 (some (229, false)),
  op 61 (.pick (.global 57) (.const (B true)) (.global 60))])
(.cond (.tmp 61)
  (.seq (reg [op 2 (.move (.const (B false)))])
  .ret)
  .skip))
(.seq (reg [op 10 (.move (.const (I 1)))])
(.seq (reg [op 62 (.move (.tmp 7)) 1,
  op 63 (.move (.tmp 10)) 1,
  op 64 (call (.func 282) #[(.global 62), (.global 63)]) 1,
  op 10 (.move (.global 64))])
(.seq (reg [op 11 (.move (.const (I 1)))])
(.seq (reg [op 65 (.move (.tmp 7)) 1,
  op 66 (.move (.tmp 11)) 1,
  op 67 (call (.func 275) #[(.global 65), (.global 66)]) 1,
  op 11 (.move (.global 67))])
(.seq (.seq (reg [op 68 (.move (.tmp 11)) 1,
  op 69 (.binOp .lss 0 (.global 68) (.const (I 0)) 0)])
(.cond (.tmp 69)
  (.seq (reg [op 2 (.move (.const (B false)))])
  .ret)
  .skip))
(.seq (.seq (reg [op 70 (.move (.tmp 11)) 1,
  op 71 (.move (.tmp 10)) 1,
  op 72 (.binOp .neq 0 (.global 70) (.global 71) 0)])
(.cond (.tmp 72)
  (.seq (reg [op 2 (.move (.const (B false)))])
  .ret)
  .skip))
(.seq (reg [op 74 (.lookup 6 (.tmp 1) (.tmp 1) false) 1,
  op 75 (call (.func 298) #[(.global 74)]) 1,
  op 76 (call (.func 74) #[(.global 75)]) 1,
  op 73 (.move (.global 76)) 1,
  op 77 (.extract (.global 73) 0) 1,
  op 78 (.extract (.global 73) 1) 1,
  op 12 (.move (.global 77)),
  op 13 (.move (.global 78))])
(.seq (.seq (reg [op 79 (.move (.tmp 12)) 1,
  op 80 (.move (.tmp 4)) 1,
  op 81 (call (.func 259) #[(.global 79), (.global 80)]) 1,
  op 82 (.unOp .not 0 (.global 81)) 1,
  op 83 (.move (.global 82)) 1,
  op 84 (.move (.tmp 13)) 1 (some (333, false)),
  op 85 (.move (.tmp 5)) 1 (some (333, false)),
  op 86 (.binOp .neq 0 (.global 84) (.global 85) 0) 1 (some (333, false)),
  op 87 (.pick (.global 83) (.const (B true)) (.global 86))])
(.cond (.tmp 87)
  (.seq (reg [op 2 (.move (.const (B false)))])
  .ret)
  .skip))
(.seq (reg [op 11 (.move (.const (I 1)))])
(.seq (reg [op 88 (.move (.tmp 7)) 1,
  op 89 (.move (.tmp 11)) 1,
  op 90 (call (.func 275) #[(.global 88), (.global 89)]) 1,
  op 11 (.move (.global 90))])
(.seq (.seq (reg [op 91 (.move (.tmp 11)) 1,
  op 92 (.binOp .lss 0 (.global 91) (.const (I 0)) 0)])
(.cond (.tmp 92)
  (.seq (reg [op 2 (.move (.const (B false)))])
  .ret)
  .skip))
(.seq (.seq (reg [op 93 (.move (.tmp 11)) 1,
  op 94 (.move (.tmp 10)) 1,
  op 95 (.binOp .neq 0 (.global 93) (.global 94) 0)])
(.cond (.tmp 95)
  (.seq (reg [op 2 (.move (.const (B false)))])
  .ret)
  .skip))
(.seq (reg [op 2 (.move (.const (B true)))])
.ret))))))))))))))))))))))))), [(2, 0)]⟩

/-- laws.FnRows -/
def fn255 : AFun := ⟨1,
(.seq (reg [op 2 (.move (.const (B false)))])
(.seq (.seq (reg [op 39 (.move (.tmp 0)) 1,
  op 40 (call (.func 269) #[(.global 39)])])
(.cond (.tmp 40)
  (.seq (reg [op 2 (.move (.const (B true)))])
  .ret)
  .skip))
(.seq (reg [op 42 (.move (.tmp 0)) 1,
  op 43 (call (.func 372) #[(.global 42)]) 1,
  op 41 (.move (.global 43)) 1,
  op 44 (.extract (.global 41) 0) 1,
  op 45 (.extract (.global 41) 1) 1,
  op 3 (.move (.global 44)),
  op 4 (.move (.global 45))])
(.seq (reg [op 47 (.move (.tmp 3)) 1,
  op 48 (.move (.tmp 4)) 1,
  op 49 (call (.func 125) #[(.global 47), (.global 48)]) 1,
  op 46 (.move (.global 49)) 1,
  op 50 (.extract (.global 46) 0) 1,
  op 51 (.extract (.global 46) 1) 1,
  op 5 (.move (.global 50)),
  op 6 (.move (.global 51))])
(.seq (reg [op 53 (.move (.tmp 3)) 1,
  op 54 (.move (.tmp 4)) 1,
  op 55 (call (.func 416) #[(.global 53), (.global 54)]) 1,
  op 52 (.move (.global 55)) 1,
  op 56 (.extract (.global 52) 0) 1,
  op 57 (.extract (.global 52) 1) 1,
  op 7 (.move (.global 56)),
  op 8 (.move (.global 57))])
(.seq (reg [op 59 (.move (.tmp 0)) 1,
  op 60 (call (.func 351) #[(.global 59)]) 1,
  op 58 (.move (.global 60)) 1,
  op 61 (.extract (.global 58) 0) 1,
  op 62 (.extract (.global 58) 1) 1,
  op 9 (.move (.global 61)),
  op 10 (.move (.global 62))])
(.seq (reg [op 64 (.move (.tmp 9)) 1,
  op 65 (.move (.tmp 10)) 1,
  op 66 (call (.func 66) #[(.global 64), (.global 65)]) 1,
  op 63 (.move (.global 66)) 1,
  op 67 (.extract (.global 63) 0) 1,
  op 68 (.extract (.global 63) 1) 1,
  op 11 (.move (.global 67)),
  op 12 (.move (.global 68))])
(.seq (reg [op 70 (.move (.tmp 9)) 1,
  op 71 (.move (.tmp 10)) 1,
  op 72 (call (.func 335) #[(.global 70), (.global 71)]) 1,
  op 69 (.move (.global 72)) 1,
  op 73 (.extract (.global 69) 0) 1,
  op 74 (.extract (.global 69) 1) 1,
  op 13 (.move (.global 73)),
  op 14 (.move (.global 74))])
(.seq (reg [op 76 (.move (.tmp 0)) 1,
  op 77 (call (.func 366) #[(.global 76)]) 1,
  op 75 (.move (.global 77)) 1,
  op 78 (.extract (.global 75) 0) 1,
  op 79 (.extract (.global 75) 1) 1,
  op 15 (.move (.global 78)),
  op 16 (.move (.global 79))])
(.seq (reg [op 81 (.move (.tmp 15)) 1,
  op 82 (.move (.tmp 16)) 1,
  op 83 (call (.func 115) #[(.global 81), (.global 82)]) 1,
  op 80 (.move (.global 83)) 1,
  op 84 (.extract (.global 80) 0) 1,
  op 85 (.extract (.global 80) 1) 1,
  op 17 (.move (.global 84)),
  op 18 (.move (.global 85))])
(.seq (reg [op 87 (.move (.tmp 15)) 1,
  op 88 (.move (.tmp 16)) 1,
  op 89 (call (.func 407) #[(.global 87), (.global 88)]) 1,
  op 86 (.move (.global 89)) 1,
  op 90 (.extract (.global 86) 0) 1,
  op 91 (.extract (.global 86) 1) 1,
  op 19 (.move (.global 90)),
  op 20 (.move (.global 91))])
(.seq (reg [op 93 (.move (.tmp 0)) 1,
  op 94 (call (.func 367) #[(.global 93)]) 1,
  op 92 (.move (.global 94)) 1,
  op 95 (.extract (.global 92) 0) 1,
  op 96 (.extract (.global 92) 1) 1,
  op 21 (.move (.global 95)),
  op 22 (.move (.global 96))])
(.seq (reg [op 98 (.move (.tmp 21)) 1,
  op 99 (.move (.tmp 22)) 1,
  op 100 (call (.func 116) #[(.global 98), (.global 99)]) 1,
  op 97 (.move (.global 100)) 1,
  op 101 (.extract (.global 97) 0) 1,
  op 102 (.extract (.global 97) 1) 1,
  op 23 (.move (.global 101)),
  op 24 (.move (.global 102))])
(.seq (reg [op 104 (.move (.tmp 21)) 1,
  op 105 (.move (.tmp 22)) 1,
  op 106 (call (.func 408) #[(.global 104), (.global 105)]) 1,
  op 103 (.move (.global 106)) 1,
  op 107 (.extract (.global 103) 0) 1,
  op 108 (.extract (.global 103) 1) 1,
  op 25 (.move (.global 107)),
  op 26 (.move (.global 108))])
(.seq (reg [op 109 (.move (.tmp 0)) 1,
  op 110 (call (.func 376) #[(.global 109)]) 1,
  op 27 (.move (.global 110))])
(.seq (.seq (reg [op 111 (.move (.tmp 6)) 1,
  op 112 (.move (.tmp 8)) 1,
  op 113 (.binOp .neq 0 (.global 111) (.global 112) 0) 1,
  op 114 (.move (.global 113)) 1,
  op 115 (.move (.tmp 5)) 1 (some (457, false)),
  op 116 (.move (.tmp 7)) 1 (some (457, false)),
  op 117 (call (.func 272) #[(.global 115), (.global 116)]) 1 (some (457, false)),
  op 118 (.unOp .not 0 (.global 117)) 1 (some (457, false)),
  op 119 (.pick (.global 114) (.const (B true)) (.global 118)) 1,
  op 120 (.move (.global 119)) 1,
  op 121 (.move (.tmp 12)) 1 (some (481, false)),
  op 122 (.move (.tmp 14)) 1 (some (481, false)),
  op 123 (.binOp .neq 0 (.global 121) (.global 122) 0) 1 (some (481, false)),
  op 124 (.pick (.global 120) (.const (B true)) (.global 123)) 1,
  op 125 (.move (.global 124)) 1,
  op 126 (.move (.tmp 11)) 1 (some (501, false)),
  op 127 (.move (.tmp 13)) 1 (some (501, false)),
  op 128 (call (.func 272) #[(.global 126), (.global 127)]) 1 (some (501, false)),
  op 129 (.unOp .not 0 (.global 128)) 1 (some (501, false)),
  op 130 (.pick (.global 125) (.const (B true)) (.global 129)) 1,
  op 131 (.move (.global 130)) 1,
  op 132 (.move (.tmp 18)) 1 (some (525, false)),
  op 133 (.move (.tmp 20)) 1 (some (525, false)),
  op 134 (.binOp .neq 0 (.global 132) (.global 133) 0) 1 (some (525, false)),
  op 135 (.pick (.global 131) (.const (B true)) (.global 134)) 1,
  op 136 (.move (.global 135)) 1,
  op 137 (.move (.tmp 17)) 1 (some (545, false)),
  op 138 (.move (.tmp 19)) 1 (some (545, false)),
  op 139 (call (.func 271) #[(.global 137), (.global 138)]) 1 (some (545, false)),
  op 140 (.unOp .not 0 (.global 139)) 1 (some (545, false)),
  op 141 (.pick (.global 136) (.const (B true)) (.global 140)) 1,
  op 142 (.move (.global 141)) 1,
  op 143 (.move (.tmp 24)) 1 (some (569, false)),
  op 144 (.move (.tmp 26)) 1 (some (569, false)),
  op 145 (.binOp .neq 0 (.global 143) (.global 144) 0) 1 (some (569, false)),
  op 146 (.pick (.global 142) (.const (B true)) (.global 145)) 1,
  op 147 (.move (.global 146)) 1,
  op 148 (.move (.tmp 23)) 1 (some (589, false)),
  op 149 (.move (.tmp 25)) 1 (some (589, false)),
  op 150 (call (.func 274) #[(.global 148), (.global 149)]) 1 (some (589, false)),
  op 151 (.unOp .not 0 (.global 150)) 1 (some (589, false)),
  op 152 (.pick (.global 147) (.const (B true)) (.global 151)) 1,
  op 153 (.move (.global 152)) 1,
  op 154 (.move (.tmp 27)) 1 (some (613, false)),
  op 155 (call (.func 143) #[(.global 154)]) 1 (some (613, false)),
  op 156 (.move (.tmp 27)) 1 (some (613, false)),
  op 157 (call (.func 429) #[(.global 156)]) 1 (some (613, false)),
  op 158 (.binOp .neq 0 (.global 155) (.global 157) 0) 1 (some (613, false)),
  op 159 (.pick (.global 153) (.const (B true)) (.global 158))])
(.cond (.tmp 159)
  (.seq (reg [op 2 (.move (.const (B false)))])
  .ret)
  .skip))
(.seq (.seq (reg [op 160 (.move (.tmp 12)) 1,
  op 161 (.binOp .eql 0 (.global 160) (.const (I 0)) 0)])
(.cond (.tmp 161)
  (.seq (reg [op 28 (.move (.const (I 0)))])
  (.seq (.seq (reg [op 29 (.move (.const (I 0)))])
  (.block 0
    (.loop
      (.seq (.seq (reg [op 162 (.move (.tmp 29)) 1,
        op 163 (.move (.tmp 11)) 1,
        op 164 (bi .len #[(.global 163)] 1) 1,
        op 165 (.binOp .lss 0 (.global 162) (.global 164) 0)])
      (.cond (.tmp 165)
        .skip
        (.exit 0)))
      (.seq (.block 1
        (reg [op 168 (.move (.tmp 28)) 1,
          op 169 (.move (.tmp 11)) 1,
          op 170 (.move (.tmp 29)) 1,
          op 171 (.indexAddr 3 (.global 169) (.global 170)) 1,
          op 172 (.load 0 (.global 171)) 1,
          op 173 (bi .len #[(.global 172)] 1) 1,
          op 174 (.binOp .add 0 (.global 168) (.global 173) 0) 1,
          op 28 (.move (.global 174))]))
      (reg [op 166 (.move (.tmp 29)) 1,
        op 167 (.binOp .add 0 (.global 166) (.const (I 1)) 0) 1,
        op 29 (.move (.global 167))]))))))
  (.seq (reg [op 175 (.move (.tmp 28)) 1,
    op 176 (.move (.tmp 9)) 1,
    op 177 (.binOp .neq 0 (.global 175) (.global 176) 0)])
  (.cond (.tmp 177)
    (.seq (reg [op 2 (.move (.const (B false)))])
    .ret)
    .skip))))
  .skip))
(.seq (.seq (reg [op 178 (.move (.tmp 6)) 1,
  op 179 (.binOp .neq 0 (.global 178) (.const (I 0)) 0)])
(.cond (.tmp 179)
  (.seq (reg [op 2 (.move (.const (B true)))])
  .ret)
  .skip))
(.seq (reg [op 180 (.move (.const (sl 0 0 0 1))) 1,
  op 30 (.move (.global 180))])
(.seq (.seq (reg [op 31 (.move (.const (I 0)))])
(.block 2
  (.loop
    (.seq (.seq (reg [op 181 (.move (.tmp 31)) 1,
      op 182 (.move (.tmp 5)) 1,
      op 183 (bi .len #[(.global 182)] 1) 1,
      op 184 (.binOp .lss 0 (.global 181) (.global 183) 0)])
    (.cond (.tmp 184)
      .skip
      (.exit 2)))
    (.seq (.block 3
      (.seq (reg [op 187 (.move (.tmp 3)) 1,
        op 188 (.binOp .add 0 (.global 187) (.const (I 1)) 0) 1,
        op 189 (.mapUpdate 1 (.global 188) (.global 188) (.const (.agg #[(B false)]))) 1,
        op 32 (.move (.global 189))])
      (.seq (reg [op 33 (.move (.const (I 0)))])
      (.block 4
        (.loop
          (.seq (.seq (reg [op 190 (.move (.tmp 33)) 1,
            op 191 (.move (.tmp 5)) 1,
            op 192 (.move (.tmp 31)) 1,
            op 193 (.indexAddr 3 (.global 191) (.global 192)) 1,
            op 194 (.load 0 (.global 193)) 1,
            op 195 (bi .len #[(.global 194)] 1) 1,
            op 196 (.binOp .lss 0 (.global 190) (.global 195) 0)])
          (.cond (.tmp 196)
            .skip
            (.exit 4)))
          (.seq (.block 5
            (.seq (reg [op 199 (.move (.tmp 7)) 1,
              op 200 (.move (.tmp 31)) 1,
              op 201 (.indexAddr 3 (.global 199) (.global 200)) 1,
              op 202 (.load 0 (.global 201)) 1,
              op 203 (.move (.tmp 33)) 1,
              op 204 (.indexAddr 3 (.global 202) (.global 203)) 1,
              op 205 (.load 0 (.global 204)) 1,
              op 34 (.move (.global 205))])
            (.seq (.seq (reg [op 206 (.move (.tmp 34)) 1,
              op 207 (.binOp .lss 0 (.global 206) (.const (I 0)) 0)])
            (.cond (.tmp 207)
              (reg [op 208 (.move (.tmp 34)) 1,
                op 209 (.unOp .neg 0 (.global 208)) 1,
                op 34 (.move (.global 209))])
              .skip))
            (.seq (.seq (reg [op 210 (.move (.tmp 32)) 1,
              op 211 (.move (.tmp 34)) 1,
              op 212 (.binOp .sub 0 (.global 211) (.const (I 1)) 0) 1,
              op 213 (.indexAddr 3 (.global 210) (.global 212)) 1,
              op 214 (.load 0 (.global 213)) 1,
              op 215 (.move (.global 214)) 1,
              op 216 (.move (.tmp 32)) 1 (some (861, false)),
              op 217 (.move (.tmp 34)) 1 (some (861, false)),
              op 218 (.indexAddr 3 (.global 216) (.global 217)) 1 (some (861, false)),
              op 219 (.load 0 (.global 218)) 1 (some (861, false)),
              op 220 (.pick (.global 215) (.const (B true)) (.global 219))])
            (.cond (.tmp 220)
              (.seq (reg [op 2 (.move (.const (B false)))])
              .ret)
              .skip))
            (.seq (reg [op 221 (.move (.tmp 32)) 1,
              op 222 (.move (.tmp 34)) 1,
              op 223 (.binOp .sub 0 (.global 222) (.const (I 1)) 0) 1,
              op 224 (.indexAddr 3 (.global 221) (.global 223)) 1,
              opn (.store 1 (.global 224) (.const (B true)))])
            (.seq (reg [op 225 (.move (.tmp 32)) 1,
              op 226 (.move (.tmp 34)) 1,
              op 227 (.indexAddr 3 (.global 225) (.global 226)) 1,
              opn (.store 1 (.global 227) (.const (B true)))])
            (reg [op 228 (.move (.tmp 30)) 1,
              op 229 (.move (.tmp 7)) 1,
              op 230 (.move (.tmp 31)) 1,
              op 231 (.indexAddr 3 (.global 229) (.global 230)) 1,
              op 232 (.load 0 (.global 231)) 1,
              op 233 (.move (.tmp 33)) 1,
              op 234 (.indexAddr 3 (.global 232) (.global 233)) 1,
              op 235 (.load 0 (.global 234)) 1,
              op 236 (.buildSlice 1 1 #[(0, (.const (.agg #[(I 0)]))), (1, (.global 235))]) 1,
              op 237 (bi .append #[(.global 228), (.global 236)] 1) 1,
              op 30 (.move (.global 237))])))))))
          (reg [op 197 (.move (.tmp 33)) 1,
            op 198 (.binOp .add 0 (.global 197) (.const (I 1)) 0) 1,
            op 33 (.move (.global 198))]))))))))
    (reg [op 185 (.move (.tmp 31)) 1,
      op 186 (.binOp .add 0 (.global 185) (.const (I 1)) 0) 1,
      op 31 (.move (.global 186))]))))))
(.seq (reg [op 239 (.move (.tmp 3)) 1,
  op 240 (.move (.tmp 4)) 1,
  op 241 (call (.func 104) #[(.global 239), (.global 240)]) 1,
  op 238 (.move (.global 241)) 1,
  op 242 (.extract (.global 238) 0) 1,
  op 243 (.extract (.global 238) 1) 1,
  op 35 (.move (.global 242)),
  op 36 (.move (.global 243))])
(.seq (reg [op 245 (.move (.tmp 3)) 1,
  op 246 (.move (.tmp 30)) 1,
  op 247 (call (.func 104) #[(.global 245), (.global 246)]) 1,
  op 244 (.move (.global 247)) 1,
  op 248 (.extract (.global 244) 0) 1,
  op 249 (.extract (.global 244) 1) 1,
  op 37 (.move (.global 248)),
  op 38 (.move (.global 249))])
(.seq (reg [op 250 (.move (.tmp 36)) 1,
  op 251 (.binOp .eql 0 (.global 250) (.const (I 0)) 0) 1,
  op 252 (.move (.global 251)) 1,
  op 253 (.move (.tmp 38)) 1 (some (1009, true)),
  op 254 (.binOp .eql 0 (.global 253) (.const (I 0)) 0) 1 (some (1009, true)),
  op 255 (.pick (.global 252) (.global 254) (.const (B false))) 1,
  op 256 (.move (.global 255)) 1,
  op 257 (.move (.tmp 35)) 1 (some (1025, true)),
  op 258 (.move (.tmp 37)) 1 (some (1025, true)),
  op 259 (call (.func 271) #[(.global 257), (.global 258)]) 1 (some (1025, true)),
  op 260 (.pick (.global 256) (.global 259) (.const (B false))) 1,
  op 261 (.move (.global 260)) 1,
  op 262 (.move (.tmp 30)) 1 (some (1045, true)),
  op 263 (bi .len #[(.global 262)] 1) 1 (some (1045, true)),
  op 264 (.move (.tmp 4)) 1 (some (1045, true)),
  op 265 (bi .len #[(.global 264)] 1) 1 (some (1045, true)),
  op 266 (.binOp .eql 0 (.global 263) (.global 265) 0) 1 (some (1045, true)),
  op 267 (.pick (.global 261) (.global 266) (.const (B false))) 1,
  op 2 (.move (.global 267))])
.ret))))))))))))))))))))))), [(2, 0)]⟩

/-- laws.f6big -/
def fn269 : AFun := ⟨1,
(.seq (reg [op 2 (.move (.const (B false)))])
(.seq (reg [op 3 (.move (.tmp 0)) 1,
  op 4 (bi .len #[(.global 3)] 1) 1,
  op 5 (.binOp .gtr 0 (.global 4) (.const (I 4096)) 0) 1,
  op 2 (.move (.global 5))])
.ret)), [(2, 0)]⟩

/-- spec.DrawPackPanel -/
def fn362 : AFun := ⟨1,
(.seq (reg [op 2 (.move (.const (.agg #[(I 0), (I 0), (sl 0 0 0 0)])))])
(.seq (reg [op 3 (.move (.tmp 0)) 1,
  op 4 (call (.func 431) #[(.global 3)]) 1,
  op 5 (call (.func 443) #[(.global 4)]) 1,
  op 2 (.insert 3 (.tmp 2) (.tmp 2) (.global 5))])
.ret)), [(2, 1000004)]⟩

/-- impl.PackPanel -/
def fn107 : AFun := ⟨1,
(.seq (reg [op 1 (.makeChan 3 (.tmp 0)),
  op 2 (.move (.const (S []))),
  op 3 (.move (.const (I 0)))])
(.seq (.seq (reg [op 4 (.lookup 4 (.tmp 1) (.tmp 1) false) 1,
  op 5 (call (.func 140) #[(.global 4)]) 1,
  op 6 (.unOp .not 0 (.global 5))])
(.cond (.tmp 6)
  (.seq (reg [op 2 (.move (.const (S []))),
    op 3 (.move (.const (I 1)))])
  .ret)
  .skip))
(.seq (reg [op 7 (.lookup 4 (.tmp 1) (.tmp 1) false) 1,
  op 8 (call (.func 180) #[(.global 7)]) 1,
  op 2 (.move (.global 8)),
  op 3 (.move (.const (I 0)))])
.ret))), [(2, 0), (3, 0)]⟩

/-- spec.PackPanel -/
def fn398 : AFun := ⟨1,
(.seq (reg [op 1 (.box 3 (.tmp 0)),
  op 2 (.move (.const (S []))),
  op 3 (.move (.const (I 0)))])
(.seq (.seq (reg [op 4 (call (.func 452) #[(.tmp 1)]) 1,
  op 5 (.unOp .not 0 (.global 4))])
(.cond (.tmp 5)
  (.seq (reg [op 2 (.move (.const (S []))),
    op 3 (.move (.const (I 1)))])
  .ret)
  .skip))
(.seq (reg [op 6 (call (.func 571) #[(.tmp 1)]) 1,
  op 2 (.move (.global 6)),
  op 3 (.move (.const (I 0)))])
.ret))), [(2, 0), (3, 0)]⟩

/-- spec.DrawUnpackPanel -/
def fn375 : AFun := ⟨1,
(.seq (reg [op 2 (.move (.const (S [])))])
(.seq (reg [op 3 (.move (.tmp 0)) 1,
  op 4 (call (.func 431) #[(.global 3)]) 1,
  op 5 (call (.func 565) #[(.global 4)]) 1,
  op 2 (.move (.global 5))])
.ret)), [(2, 0)]⟩

/-- impl.UnpackPanel -/
def fn136 : AFun := ⟨1,
(.seq (reg [op 2 (.move (.const (.agg #[(I 0), (I 0), (sl 0 0 0 0)]))),
  op 3 (.move (.const (I 0)))])
(.seq (reg [op 7 (.move (.tmp 0)) 1,
  op 8 (call (.func 195) #[(.global 7)]) 1,
  op 6 (.move (.global 8)) 1,
  op 9 (.extract (.global 6) 0) 1,
  op 10 (.extract (.global 6) 1) 1,
  op 4 (.move (.const (.agg #[(I 0), (I 0), (sl 0 0 0 0)]))),
  op 4 (.insert 3 (.tmp 4) (.tmp 4) (.global 9)),
  op 5 (.move (.global 10))])
(.seq (.seq (reg [op 11 (.move (.tmp 5)) 1,
  op 12 (.unOp .not 0 (.global 11))])
(.cond (.tmp 12)
  (.seq (reg [op 13 (.build 0 #[(0, (.const (.agg #[(I 0), (I 0), (sl 0 0 0 0)])))]) 1,
    op 2 (.insert 3 (.tmp 2) (.tmp 2) (.global 13)),
    op 3 (.move (.const (I 8)))])
  .ret)
  .skip))
(.seq (reg [op 14 (.lookup 4 (.tmp 4) (.tmp 4) false) 1,
  op 2 (.insert 3 (.tmp 2) (.tmp 2) (.global 14)),
  op 3 (.move (.const (I 0)))])
.ret)))), [(2, 1000004), (3, 0)]⟩

/-- spec.UnpackPanel -/
def fn426 : AFun := ⟨1,
(.seq (reg [op 2 (.move (.const (.agg #[(I 0), (I 0), (sl 0 0 0 0)]))),
  op 3 (.move (.const (I 0)))])
(.seq (reg [op 7 (.move (.tmp 0)) 1,
  op 8 (call (.func 574) #[(.global 7)]) 1,
  op 6 (.move (.global 8)) 1,
  op 9 (.extract (.global 6) 0) 1,
  op 10 (.extract (.global 6) 1) 1,
  op 4 (.move (.const (.agg #[(I 0), (I 0), (sl 0 0 0 0)]))),
  op 4 (.insert 3 (.tmp 4) (.tmp 4) (.global 9)),
  op 5 (.move (.global 10))])
(.seq (.seq (reg [op 11 (.move (.tmp 5)) 1,
  op 12 (.binOp .neq 0 (.global 11) (.const (I 0)) 0)])
(.cond (.tmp 12)
  (.seq (reg [op 13 (.build 0 #[(0, (.const (.agg #[(I 0), (I 0), (sl 0 0 0 0)])))]) 1,
    op 2 (.insert 3 (.tmp 2) (.tmp 2) (.global 13)),
    op 3 (.move (.const (I 8)))])
  .ret)
  .skip))
(.seq (reg [op 14 (.lookup 4 (.tmp 4) (.tmp 4) false) 1,
  op 2 (.insert 3 (.tmp 2) (.tmp 2) (.global 14)),
  op 3 (.move (.const (I 0)))])
.ret)))), [(2, 1000004), (3, 0)]⟩

/-- impl.ImageFault -/
def fn88 : AFun := ⟨1,
(.seq (reg [op 2 (.move (.const (I 0)))])
(.seq (.seq (reg [op 5 (.move (.tmp 0)) 1,
  op 6 (bi .len #[(.global 5)] 0) 1,
  op 7 (.binOp .lss 0 (.global 6) (.const (I 5)) 0) 1,
  op 8 (.move (.global 7)) 1,
  op 9 (.move (.tmp 0)) 1 (some (33, false)),
  op 10 (.index 0 (.global 9) (.const (I 0))) 1 (some (33, false)),
  op 11 (.binOp .neq 0 (.global 10) (.const (U 77)) 0) 1 (some (33, false)),
  op 12 (.pick (.global 8) (.const (B true)) (.global 11)) 1,
  op 13 (.move (.global 12)) 1,
  op 14 (.move (.tmp 0)) 1 (some (53, false)),
  op 15 (.index 0 (.global 14) (.const (I 1))) 1 (some (53, false)),
  op 16 (.convert 0 3 (.global 15)) 1 (some (53, false)),
  op 17 (.move (.tmp 0)) 1 (some (53, false)),
  op 18 (.index 0 (.global 17) (.const (I 2))) 1 (some (53, false)),
  op 19 (.convert 0 3 (.global 18)) 1 (some (53, false)),
  op 20 (call (.func 198) #[(.global 16), (.global 19)]) 1 (some (53, false)),
  op 21 (.unOp .not 0 (.global 20)) 1 (some (53, false)),
  op 22 (.pick (.global 13) (.const (B true)) (.global 21))])
(.cond (.tmp 22)
  (.seq (reg [op 2 (.move (.const (I 1)))])
  .ret)
  .skip))
(.seq (.seq (reg [op 23 (.move (.tmp 0)) 1,
  op 24 (bi .len #[(.global 23)] 0) 1,
  op 25 (.move (.tmp 0)) 1,
  op 26 (.index 0 (.global 25) (.const (I 1))) 1,
  op 27 (.convert 0 3 (.global 26)) 1,
  op 28 (.move (.tmp 0)) 1,
  op 29 (.index 0 (.global 28) (.const (I 2))) 1,
  op 30 (.convert 0 3 (.global 29)) 1,
  op 31 (call (.func 181) #[(.global 27), (.global 30)]) 1,
  op 32 (.binOp .neq 0 (.global 24) (.global 31) 0)])
(.cond (.tmp 32)
  (.seq (reg [op 2 (.move (.const (I 2)))])
  .ret)
  .skip))
(.seq (.seq (reg [op 33 (.move (.tmp 0)) 1,
  op 34 (.move (.tmp 0)) 1,
  op 35 (bi .len #[(.global 34)] 0) 1,
  op 36 (.binOp .sub 0 (.global 35) (.const (I 2)) 0) 1,
  op 37 (.slice 0 (.global 33) none (some (.global 36)) none) 1,
  op 38 (call (.func 191) #[(.global 37)]) 1,
  op 39 (.move (.tmp 0)) 1,
  op 40 (.binOp .neq 0 (.global 38) (.global 39) 0)])
(.cond (.tmp 40)
  (.seq (reg [op 2 (.move (.const (I 3)))])
  .ret)
  .skip))
(.seq (.seq (reg [op 42 (.move (.tmp 0)) 1,
  op 43 (call (.func 195) #[(.global 42)]) 1,
  op 41 (.move (.global 43)) 1,
  op 44 (.extract (.global 41) 0) 1,
  op 45 (.extract (.global 41) 1) 1,
  op 3 (.move (.const (.agg #[(I 0), (I 0), (sl 0 0 0 0)]))),
  op 3 (.insert 3 (.tmp 3) (.tmp 3) (.global 44)),
  op 4 (.move (.global 45))])
(.seq (reg [op 46 (.move (.tmp 4)) 1,
  op 47 (.unOp .not 0 (.global 46))])
(.cond (.tmp 47)
  (.seq (reg [op 2 (.move (.const (I 4)))])
  .ret)
  .skip)))
(.seq (reg [op 2 (.move (.const (I 0)))])
.ret)))))), [(2, 0)]⟩

/-- spec.DrawPackedSize -/
def fn363 : AFun := ⟨1,
(.seq (reg [op 2 (.move (.const (I 0))),
  op 3 (.move (.const (I 0)))])
(.seq (reg [op 6 (.move (.tmp 0)) 1,
  op 7 (call (.func 431) #[(.global 6)]) 1,
  op 4 (.move (.global 7))])
(.seq (reg [op 8 (.move (.tmp 4)) 1,
  op 9 (call (.func 7) #[(.global 8), (.const (I 11))]) 1,
  op 10 (.binOp .sub 0 (.global 9) (.const (I 1)) 0) 1,
  op 5 (.move (.global 10))])
(.seq (reg [op 11 (.move (.tmp 5)) 1,
  op 12 (.move (.tmp 4)) 1,
  op 13 (call (.func 7) #[(.global 12), (.const (I 11))]) 1,
  op 14 (.binOp .sub 0 (.global 13) (.const (I 1)) 0) 1,
  op 2 (.move (.global 11)),
  op 3 (.move (.global 14))])
.ret)))), [(2, 0), (3, 0)]⟩

/-- impl.PackedSize -/
def fn108 : AFun := ⟨2,
(.seq (reg [op 4 (.move (.const (I 0))),
  op 5 (.move (.const (I 0)))])
(.seq (.seq (reg [op 6 (.move (.tmp 0)) 1,
  op 7 (.move (.tmp 1)) 1,
  op 8 (call (.func 198) #[(.global 6), (.global 7)]) 1,
  op 9 (.unOp .not 0 (.global 8))])
(.cond (.tmp 9)
  (.seq (reg [op 4 (.move (.const (I 0))),
    op 5 (.move (.const (I 2)))])
  .ret)
  .skip))
(.seq (reg [op 10 (.move (.tmp 0)) 1,
  op 11 (.move (.tmp 1)) 1,
  op 12 (call (.func 181) #[(.global 10), (.global 11)]) 1,
  op 4 (.move (.global 12)),
  op 5 (.move (.const (I 0)))])
.ret))), [(4, 0), (5, 0)]⟩

/-- spec.PackedSize -/
def fn399 : AFun := ⟨2,
(.seq (reg [op 4 (.move (.const (I 0))),
  op 5 (.move (.const (I 0)))])
(.seq (.seq (reg [op 6 (.move (.tmp 0)) 1,
  op 7 (call (.func 457) #[(.global 6)]) 1,
  op 8 (.unOp .not 0 (.global 7)) 1,
  op 9 (.move (.global 8)) 1,
  op 10 (.move (.tmp 1)) 1 (some (37, false)),
  op 11 (call (.func 457) #[(.global 10)]) 1 (some (37, false)),
  op 12 (.unOp .not 0 (.global 11)) 1 (some (37, false)),
  op 13 (.pick (.global 9) (.const (B true)) (.global 12))])
(.cond (.tmp 13)
  (.seq (reg [op 4 (.move (.const (I 0))),
    op 5 (.move (.const (I 2)))])
  .ret)
  .skip))
(.seq (reg [op 14 (.move (.tmp 0)) 1,
  op 15 (.move (.tmp 1)) 1,
  op 16 (call (.func 572) #[(.global 14), (.global 15)]) 1,
  op 4 (.move (.global 16)),
  op 5 (.move (.const (I 0)))])
.ret))), [(4, 0), (5, 0)]⟩

/-- spec.DrawReadHex -/
def fn369 : AFun := ⟨1,
(.seq (reg [op 2 (.move (.const (S [])))])
(.seq (reg [op 5 (.move (.tmp 0)) 1,
  op 6 (call (.func 431) #[(.global 5)]) 1,
  op 3 (.move (.global 6))])
(.seq (reg [op 7 (.move (.tmp 3)) 1,
  op 8 (call (.func 565) #[(.global 7)]) 1,
  op 9 (call (.func 380) #[(.global 8)]) 1,
  op 4 (.move (.global 9))])
(.seq (.seq (reg [op 10 (.move (.tmp 3)) 1,
  op 11 (call (.func 6) #[(.global 10), (.const (I 3))])])
(.cond (.tmp 11)
  (.seq (reg [op 12 (.move (.tmp 3)) 1,
    op 13 (.move (.tmp 4)) 1,
    op 14 (call (.func 442) #[(.global 12), (.global 13)]) 1,
    op 2 (.move (.global 14))])
  .ret)
  .skip))
(.seq (reg [op 15 (.move (.tmp 4)) 1,
  op 2 (.move (.global 15))])
.ret))))), [(2, 0)]⟩

/-- impl.ReadHex -/
def fn120 : AFun := ⟨1,
(.seq (reg [op 2 (.move (.const (S []))),
  op 3 (.move (.const (B false)))])
(.seq (.seq (reg [op 8 (.move (.tmp 0)) 1,
  op 9 (bi .len #[(.global 8)] 0) 1,
  op 10 (.binOp .rem 0 (.global 9) (.const (I 2)) 0) 1,
  op 11 (.binOp .neq 0 (.global 10) (.const (I 0)) 0)])
(.cond (.tmp 11)
  (.seq (reg [op 2 (.move (.const (S []))),
    op 3 (.move (.const (B false)))])
  .ret)
  .skip))
(.seq (reg [op 12 (.move (.const (sl 0 0 0 1))) 1,
  op 4 (.move (.global 12))])
(.seq (.seq (reg [op 5 (.move (.const (I 0)))])
(.block 0
  (.loop
    (.seq (.seq (reg [op 13 (.move (.tmp 5)) 1,
      op 14 (.move (.tmp 0)) 1,
      op 15 (bi .len #[(.global 14)] 0) 1,
      op 16 (.binOp .lss 0 (.global 13) (.global 15) 0)])
    (.cond (.tmp 16)
      .skip
      (.exit 0)))
    (.seq (.block 1
      (.seq (reg [op 19 (.move (.tmp 0)) 1,
        op 20 (.move (.tmp 5)) 1,
        op 21 (.index 0 (.global 19) (.global 20)) 1,
        op 22 (call (.func 183) #[(.const (S [48, 49, 50, 51, 52, 53, 54, 55, 56, 57, 97, 98, 99, 100, 101, 102])), (.global 21), (.const (I 0))]) 1,
        op 23 (.move (.tmp 0)) 1,
        op 24 (.move (.tmp 5)) 1,
        op 25 (.binOp .add 0 (.global 24) (.const (I 1)) 0) 1,
        op 26 (.index 0 (.global 23) (.global 25)) 1,
        op 27 (call (.func 183) #[(.const (S [48, 49, 50, 51, 52, 53, 54, 55, 56, 57, 97, 98, 99, 100, 101, 102])), (.global 26), (.const (I 0))]) 1,
        op 6 (.move (.global 22)),
        op 7 (.move (.global 27))])
      (.seq (.seq (reg [op 28 (.move (.tmp 6)) 1,
        op 29 (.binOp .lss 0 (.global 28) (.const (I 0)) 0) 1,
        op 30 (.move (.global 29)) 1,
        op 31 (.move (.tmp 7)) 1 (some (121, false)),
        op 32 (.binOp .lss 0 (.global 31) (.const (I 0)) 0) 1 (some (121, false)),
        op 33 (.pick (.global 30) (.const (B true)) (.global 32))])
      (.cond (.tmp 33)
        (.seq (reg [op 2 (.move (.const (S []))),
          op 3 (.move (.const (B false)))])
        .ret)
        .skip))
      (reg [op 34 (.move (.tmp 4)) 1,
        op 35 (.move (.tmp 6)) 1,
        op 36 (.binOp .mul 0 (.const (I 16)) (.global 35) 0) 1,
        op 37 (.move (.tmp 7)) 1,
        op 38 (.binOp .add 0 (.global 36) (.global 37) 0) 1,
        op 39 (.convert 0 4 (.global 38)) 1,
        op 40 (.buildSlice 1 1 #[(0, (.const (.agg #[(U 0)]))), (1, (.global 39))]) 1,
        op 41 (bi .append #[(.global 34), (.global 40)] 1) 1,
        op 4 (.move (.global 41))]))))
    (reg [op 17 (.move (.tmp 5)) 1,
      op 18 (.binOp .add 0 (.global 17) (.const (I 2)) 0) 1,
      op 5 (.move (.global 18))]))))))
(.seq (reg [op 42 (.move (.tmp 4)) 1,
  op 43 (.convert 0 21 (.global 42)) 1,
  op 2 (.move (.global 43)),
  op 3 (.move (.const (B true)))])
.ret))))), [(2, 0), (3, 0)]⟩

/-- spec.ReadHex -/
def fn411 : AFun := ⟨1,
(.seq (reg [op 2 (.move (.const (S []))),
  op 3 (.move (.const (B false)))])
(.seq (.seq (reg [op 8 (.move (.tmp 0)) 1,
  op 9 (bi .len #[(.global 8)] 0) 1,
  op 10 (.binOp .rem 0 (.global 9) (.const (I 2)) 0) 1,
  op 11 (.binOp .eql 0 (.global 10) (.const (I 1)) 0)])
(.cond (.tmp 11)
  (.seq (reg [op 2 (.move (.const (S []))),
    op 3 (.move (.const (B false)))])
  .ret)
  .skip))
(.seq (reg [op 12 (.move (.const (sl 0 0 0 1))) 1,
  op 4 (.move (.global 12))])
(.seq (.seq (reg [op 5 (.move (.const (I 0)))])
(.block 0
  (.loop
    (.seq (.seq (reg [op 13 (.move (.tmp 5)) 1,
      op 14 (.move (.tmp 0)) 1,
      op 15 (bi .len #[(.global 14)] 0) 1,
      op 16 (.binOp .lss 0 (.global 13) (.global 15) 0)])
    (.cond (.tmp 16)
      .skip
      (.exit 0)))
    (.seq (.block 1
      (.seq (reg [op 19 (.move (.tmp 0)) 1,
        op 20 (.move (.tmp 5)) 1,
        op 21 (.index 0 (.global 19) (.global 20)) 1,
        op 22 (call (.func 567) #[(.global 21)]) 1,
        op 6 (.move (.global 22))])
      (.seq (reg [op 23 (.move (.tmp 0)) 1,
        op 24 (.move (.tmp 5)) 1,
        op 25 (.binOp .add 0 (.global 24) (.const (I 1)) 0) 1,
        op 26 (.index 0 (.global 23) (.global 25)) 1,
        op 27 (call (.func 567) #[(.global 26)]) 1,
        op 7 (.move (.global 27))])
      (.seq (.seq (reg [op 28 (.move (.tmp 6)) 1,
        op 29 (.binOp .lss 0 (.global 28) (.const (I 0)) 0) 1,
        op 30 (.move (.global 29)) 1,
        op 31 (.move (.tmp 7)) 1 (some (121, false)),
        op 32 (.binOp .lss 0 (.global 31) (.const (I 0)) 0) 1 (some (121, false)),
        op 33 (.pick (.global 30) (.const (B true)) (.global 32))])
      (.cond (.tmp 33)
        (.seq (reg [op 2 (.move (.const (S []))),
          op 3 (.move (.const (B false)))])
        .ret)
        .skip))
      (reg [op 34 (.move (.tmp 4)) 1,
        op 35 (.move (.tmp 6)) 1,
        op 36 (.binOp .mul 0 (.const (I 16)) (.global 35) 0) 1,
        op 37 (.move (.tmp 7)) 1,
        op 38 (.binOp .add 0 (.global 36) (.global 37) 0) 1,
        op 39 (.convert 0 4 (.global 38)) 1,
        op 40 (.buildSlice 1 1 #[(0, (.const (.agg #[(U 0)]))), (1, (.global 39))]) 1,
        op 41 (bi .append #[(.global 34), (.global 40)] 1) 1,
        op 4 (.move (.global 41))])))))
    (reg [op 17 (.move (.tmp 5)) 1,
      op 18 (.binOp .add 0 (.global 17) (.const (I 2)) 0) 1,
      op 5 (.move (.global 18))]))))))
(.seq (reg [op 42 (.move (.tmp 4)) 1,
  op 43 (.convert 0 21 (.global 42)) 1,
  op 2 (.move (.global 43)),
  op 3 (.move (.const (B true)))])
.ret))))), [(2, 0), (3, 0)]⟩

/-- spec.SamePanel -/
def fn420 : AFun := ⟨2,
(.seq (reg [op 2 (.box 3 (.tmp 0)),
  op 3 (.box 3 (.tmp 1)),
  op 4 (.move (.const (B false)))])
(.seq (reg [op 5 (call (.func 456) #[(.tmp 2), (.tmp 3)]) 1,
  op 4 (.move (.global 5))])
.ret)), [(4, 0)]⟩

/-- spec.ImageFault -/
def fn381 : AFun := ⟨1,
(.seq (reg [op 2 (.move (.const (I 0)))])
(.seq (reg [op 6 (.move (.tmp 0)) 1,
  op 7 (call (.func 574) #[(.global 6)]) 1,
  op 5 (.move (.global 7)) 1,
  op 8 (.extract (.global 5) 0) 1,
  op 9 (.extract (.global 5) 1) 1,
  op 3 (.move (.const (.agg #[(I 0), (I 0), (sl 0 0 0 0)]))),
  op 3 (.insert 3 (.tmp 3) (.tmp 3) (.global 8)),
  op 4 (.move (.global 9))])
(.seq (reg [op 10 (.move (.tmp 4)) 1,
  op 2 (.move (.global 10))])
.ret))), [(2, 0)]⟩

/-- impl.ChecksumOf -/
def fn64 : AFun := ⟨1,
(.seq (reg [op 2 (.move (.const (I 0)))])
(.seq (reg [op 3 (.move (.const (I 1))),
  op 4 (.move (.const (I 0)))])
(.seq (.seq (reg [op 6 (.move (.tmp 0)) 1,
  op 7 (bi .len #[(.global 6)] 0),
  op 8 (.move (.const (I 0)))])
(.block 0
  (.loop
    (.seq (reg [op 9 (.binOp .lss 0 (.tmp 8) (.tmp 7) 0)])
    (.seq (.cond (.tmp 9)
      .skip
      (.exit 0))
    (.seq (.block 1
      (.seq (reg [op 10 (.move (.tmp 8)) 1,
        op 5 (.move (.global 10))])
      (.seq (reg [op 11 (.move (.tmp 3)) 1,
        op 12 (.move (.tmp 0)) 1,
        op 13 (.move (.tmp 5)) 1,
        op 14 (.index 0 (.global 12) (.global 13)) 1,
        op 15 (.convert 0 3 (.global 14)) 1,
        op 16 (.binOp .add 0 (.global 11) (.global 15) 0) 1,
        op 17 (.binOp .rem 0 (.global 16) (.const (I 251)) 0) 1,
        op 3 (.move (.global 17))])
      (reg [op 18 (.move (.tmp 4)) 1,
        op 19 (.move (.tmp 3)) 1,
        op 20 (.binOp .add 0 (.global 18) (.global 19) 0) 1,
        op 21 (.binOp .rem 0 (.global 20) (.const (I 251)) 0) 1,
        op 4 (.move (.global 21))]))))
    (reg [op 22 (.binOp .add 0 (.tmp 8) (.const (I 1)) 0) 1,
      op 8 (.move (.global 22))])))))))
(.seq (reg [op 23 (.move (.tmp 4)) 1,
  op 24 (.binOp .mul 0 (.const (I 256)) (.global 23) 0) 1,
  op 25 (.move (.tmp 3)) 1,
  op 26 (.binOp .add 0 (.global 24) (.global 25) 0) 1,
  op 2 (.move (.global 26))])
.ret)))), [(2, 0)]⟩

/-- spec.ChecksumOf -/
def fn333 : AFun := ⟨1,
(.seq (reg [op 2 (.move (.const (I 0)))])
(.seq (reg [op 3 (.move (.tmp 0)) 1,
  op 4 (call (.func 573) #[(.global 3)]) 1,
  op 2 (.move (.global 4))])
.ret)), [(2, 0)]⟩

/-- impl.HexText -/
def fn87 : AFun := ⟨1,
(.seq (reg [op 2 (.move (.const (S [])))])
(.seq (reg [op 5 (.move (.const (sl 0 0 0 1))) 1,
  op 3 (.move (.global 5))])
(.seq (.seq (reg [op 6 (.move (.tmp 0)) 1,
  op 7 (bi .len #[(.global 6)] 0),
  op 8 (.move (.const (I 0)))])
(.block 0
  (.loop
    (.seq (reg [op 9 (.binOp .lss 0 (.tmp 8) (.tmp 7) 0)])
    (.seq (.cond (.tmp 9)
      .skip
      (.exit 0))
    (.seq (.block 1
      (.seq (reg [op 10 (.move (.tmp 8)) 1,
        op 4 (.move (.global 10))])
      (reg [op 11 (.move (.tmp 3)) 1,
        op 12 (.move (.tmp 0)) 1,
        op 13 (.move (.tmp 4)) 1,
        op 14 (.index 0 (.global 12) (.global 13)) 1,
        op 15 (.binOp .quo 0 (.global 14) (.const (U 16)) 0) 1,
        op 16 (.index 0 (.const (S [48, 49, 50, 51, 52, 53, 54, 55, 56, 57, 97, 98, 99, 100, 101, 102])) (.global 15)) 1,
        op 17 (.move (.tmp 0)) 1,
        op 18 (.move (.tmp 4)) 1,
        op 19 (.index 0 (.global 17) (.global 18)) 1,
        op 20 (.binOp .rem 0 (.global 19) (.const (U 16)) 0) 1,
        op 21 (.index 0 (.const (S [48, 49, 50, 51, 52, 53, 54, 55, 56, 57, 97, 98, 99, 100, 101, 102])) (.global 20)) 1,
        op 22 (.buildSlice 1 2 #[(0, (.const (.agg #[(U 0), (U 0)]))), (1, (.global 16)), (1001, (.global 21))]) 1,
        op 23 (bi .append #[(.global 11), (.global 22)] 1) 1,
        op 3 (.move (.global 23))])))
    (reg [op 24 (.binOp .add 0 (.tmp 8) (.const (I 1)) 0) 1,
      op 8 (.move (.global 24))])))))))
(.seq (reg [op 25 (.move (.tmp 3)) 1,
  op 26 (.convert 0 21 (.global 25)) 1,
  op 2 (.move (.global 26))])
.ret)))), [(2, 0)]⟩

/-- spec.HexText -/
def fn380 : AFun := ⟨1,
(.seq (reg [op 2 (.move (.const (S [])))])
(.seq (reg [op 3 (.move (.const (S [48, 49, 50, 51, 52, 53, 54, 55, 56, 57, 97, 98, 99, 100, 101, 102])))])
(.seq (reg [op 6 (.move (.const (sl 0 0 0 1))) 1,
  op 4 (.move (.global 6))])
(.seq (.seq (reg [op 5 (.move (.const (I 0)))])
(.block 0
  (.loop
    (.seq (.seq (reg [op 7 (.move (.tmp 5)) 1,
      op 8 (.move (.tmp 0)) 1,
      op 9 (bi .len #[(.global 8)] 0) 1,
      op 10 (.binOp .lss 0 (.global 7) (.global 9) 0)])
    (.cond (.tmp 10)
      .skip
      (.exit 0)))
    (.seq (.block 1
      (reg [op 13 (.move (.tmp 4)) 1,
        op 14 (.move (.tmp 3)) 1,
        op 15 (.move (.tmp 0)) 1,
        op 16 (.move (.tmp 5)) 1,
        op 17 (.index 0 (.global 15) (.global 16)) 1,
        op 18 (.binOp .quo 0 (.global 17) (.const (U 16)) 0) 1,
        op 19 (.index 0 (.global 14) (.global 18)) 1,
        op 20 (.move (.tmp 3)) 1,
        op 21 (.move (.tmp 0)) 1,
        op 22 (.move (.tmp 5)) 1,
        op 23 (.index 0 (.global 21) (.global 22)) 1,
        op 24 (.binOp .rem 0 (.global 23) (.const (U 16)) 0) 1,
        op 25 (.index 0 (.global 20) (.global 24)) 1,
        op 26 (.buildSlice 1 2 #[(0, (.const (.agg #[(U 0), (U 0)]))), (1, (.global 19)), (1001, (.global 25))]) 1,
        op 27 (bi .append #[(.global 13), (.global 26)] 1) 1,
        op 4 (.move (.global 27))]))
    (reg [op 11 (.move (.tmp 5)) 1,
      op 12 (.binOp .add 0 (.global 11) (.const (I 1)) 0) 1,
      op 5 (.move (.global 12))]))))))
(.seq (reg [op 28 (.move (.tmp 4)) 1,
  op 29 (.convert 0 21 (.global 28)) 1,
  op 2 (.move (.global 29))])
.ret))))), [(2, 0)]⟩

/-- laws.a2Long -/
def fn258 : AFun := ⟨2,
(.seq (reg [op 4 (.move (.const (B false)))])
(.seq (reg [op 5 (.move (.tmp 0)) 1,
  op 6 (bi .len #[(.global 5)] 1) 1,
  op 7 (.binOp .gtr 0 (.global 6) (.const (I 3000)) 0) 1,
  op 8 (.move (.global 7)) 1,
  op 9 (.move (.tmp 1)) 1 (some (33, false)),
  op 10 (bi .len #[(.global 9)] 1) 1 (some (33, false)),
  op 11 (.binOp .gtr 0 (.global 10) (.const (I 3000)) 0) 1 (some (33, false)),
  op 12 (.pick (.global 8) (.const (B true)) (.global 11)) 1,
  op 4 (.move (.global 12))])
.ret)), [(4, 0)]⟩

/-- spec.A2Journal -/
def fn327 : AFun := ⟨1,
(.seq (reg [op 2 (.move (.const (.agg #[(I 0), (I 0), (sl 0 0 0 0), (sl 0 0 0 0), (sl 0 0 0 0)])))])
(.seq (reg [op 3 (.move (.tmp 0)) 1,
  op 4 (call (.func 431) #[(.global 3)]) 1,
  op 5 (call (.func 557) #[(.global 4), (.const (I 9))]) 1,
  op 2 (.insert 5 (.tmp 2) (.tmp 2) (.global 5))])
.ret)), [(2, 1000006)]⟩

/-- impl.SquashJournal -/
def fn131 : AFun := ⟨1,
(.seq (reg [op 1 (.makeChan 5 (.tmp 0)),
  op 2 (.move (.const (.agg #[(I 0), (I 0), (sl 0 0 0 0), (sl 0 0 0 0), (sl 0 0 0 0)]))),
  op 3 (.move (.const (I 0)))])
(.seq (.seq (reg [op 8 (.lookup 6 (.tmp 1) (.tmp 1) false) 1,
  op 9 (call (.func 138) #[(.global 8)]) 1,
  op 10 (.unOp .not 0 (.global 9))])
(.cond (.tmp 10)
  (.seq (reg [op 11 (.build 0 #[(0, (.const (.agg #[(I 0), (I 0), (sl 0 0 0 0), (sl 0 0 0 0), (sl 0 0 0 0)])))]) 1,
    op 2 (.insert 5 (.tmp 2) (.tmp 2) (.global 11)),
    op 3 (.move (.const (I 1)))])
  .ret)
  .skip))
(.seq (reg [op 12 (.fieldAddr 0 (.tmp 1) 1) 1,
  op 13 (.lookup 4 (.tmp 1) (.global 12) false) 1,
  op 14 (call (.func 150) #[(.global 13)]) 1,
  op 15 (.build 0 #[(0, (.const (.agg #[(I 0), (I 0), (sl 0 0 0 0), (sl 0 0 0 0), (sl 0 0 0 0)]))), (3, (.global 14))]) 1,
  op 4 (.move (.const (.agg #[(I 0), (I 0), (sl 0 0 0 0), (sl 0 0 0 0), (sl 0 0 0 0)]))),
  op 4 (.insert 5 (.tmp 4) (.tmp 4) (.global 15))])
(.seq (.seq (reg [op 16 (.lookup 6 (.tmp 1) (.tmp 1) false) 1,
  op 17 (call (.func 22) #[(.global 16)]) 1,
  op 18 (.field 0 (.global 17) 2),
  op 19 (bi .len #[(.tmp 18)] 1),
  op 20 (.move (.const (I 0)))])
(.block 0
  (.loop
    (.seq (reg [op 21 (.binOp .lss 0 (.tmp 20) (.tmp 19) 0)])
    (.seq (.cond (.tmp 21)
      .skip
      (.exit 0))
    (.seq (.block 1
      (.seq (reg [op 22 (.move (.tmp 20)) 1,
        op 23 (.indexAddr 3 (.tmp 18) (.tmp 20)) 1,
        op 24 (.load 0 (.global 23)) 1,
        op 5 (.move (.global 22)),
        op 6 (.move (.global 24))])
      (.seq (reg [op 25 (.fieldAddr 0 (.tmp 4) 1) 1,
        op 26 (.fieldAddr 2 (.global 25) 1) 1,
        op 27 (.lookup 0 (.tmp 4) (.global 26) false) 1,
        op 28 (.move (.tmp 5)) 1,
        op 29 (.indexAddr 3 (.global 27) (.global 28)) 1,
        op 30 (.load 0 (.global 29)) 1,
        op 7 (.move (.global 30))])
      (.seq (reg [op 31 (.move (.tmp 7)) 1,
        op 32 (.move (.tmp 6)) 1,
        op 33 (.binOp .neq 0 (.global 31) (.global 32) 0)])
      (.cond (.tmp 33)
        (reg [op 34 (.fieldAddr 3 (.tmp 4) 1) 1,
          op 35 (.lookup 0 (.tmp 4) (.global 34) false) 1,
          op 36 (.move (.tmp 5)) 1,
          op 37 (.move (.tmp 6)) 1,
          op 38 (.move (.tmp 7)) 1,
          op 39 (.build 0 #[(0, (.const (.agg #[(I 0), (I 0), (I 0)]))), (1, (.global 36)), (1001, (.global 37)), (2001, (.global 38))]) 1,
          op 40 (.buildSlice 3 1 #[(0, (.const (.agg #[(I 0), (I 0), (I 0)]))), (3, (.global 39))]) 1,
          op 41 (bi .append #[(.global 35), (.global 40)] 3) 1,
          op 42 (.fieldAddr 3 (.tmp 4) 1) 1,
          op 4 (.insert 1 (.tmp 4) (.global 42) (.global 41))])
        .skip)))))
    (reg [op 43 (.binOp .add 0 (.tmp 20) (.const (I 1)) 0) 1,
      op 20 (.move (.global 43))])))))))
(.seq (reg [op 44 (.lookup 6 (.tmp 4) (.tmp 4) false) 1,
  op 2 (.insert 5 (.tmp 2) (.tmp 2) (.global 44)),
  op 3 (.move (.const (I 0)))])
.ret))))), [(2, 1000006), (3, 0)]⟩

/-- spec.ValidJournal -/
def fn427 : AFun := ⟨1,
(.seq (reg [op 1 (.box 5 (.tmp 0)),
  op 2 (.move (.const (B false)))])
(.seq (reg [op 3 (call (.func 558) #[(.tmp 1)]) 1,
  op 2 (.move (.global 3))])
.ret)), [(2, 0)]⟩

/-- spec.StartOf -/
def fn423 : AFun := ⟨1,
(.seq (reg [op 1 (.box 5 (.tmp 0)),
  op 2 (.move (.const (.agg #[(I 0), (I 0), (sl 0 0 0 0)]))),
  op 3 (.move (.const (I 0)))])
(.seq (.seq (reg [op 4 (call (.func 558) #[(.tmp 1)]) 1,
  op 5 (.unOp .not 0 (.global 4))])
(.cond (.tmp 5)
  (.seq (reg [op 6 (.build 0 #[(0, (.const (.agg #[(I 0), (I 0), (sl 0 0 0 0)])))]) 1,
    op 2 (.insert 3 (.tmp 2) (.tmp 2) (.global 6)),
    op 3 (.move (.const (I 1)))])
  .ret)
  .skip))
(.seq (reg [op 7 (call (.func 561) #[(.tmp 1)]) 1,
  op 2 (.insert 3 (.tmp 2) (.tmp 2) (.global 7)),
  op 3 (.move (.const (I 0)))])
.ret))), [(2, 1000004), (3, 0)]⟩

/-- impl.CurvesAlong -/
def fn74 : AFun := ⟨1,
(.seq (reg [op 1 (.makeChan 5 (.tmp 0)),
  op 2 (.move (.const (sl 0 0 0 0))),
  op 3 (.move (.const (I 0)))])
(.seq (.seq (reg [op 8 (.lookup 6 (.tmp 1) (.tmp 1) false) 1,
  op 9 (call (.func 138) #[(.global 8)]) 1,
  op 10 (.unOp .not 0 (.global 9))])
(.cond (.tmp 10)
  (.seq (reg [op 2 (.move (.const (sl 0 0 0 0))),
    op 3 (.move (.const (I 1)))])
  .ret)
  .skip))
(.seq (reg [op 11 (.lookup 6 (.tmp 1) (.tmp 1) false) 1,
  op 12 (call (.func 22) #[(.global 11)]) 1,
  op 4 (.move (.const (.agg #[(I 0), (I 0), (sl 0 0 0 0)]))),
  op 4 (.insert 3 (.tmp 4) (.tmp 4) (.global 12))])
(.seq (reg [op 13 (.lookup 4 (.tmp 4) (.tmp 4) false) 1,
  op 14 (call (.func 154) #[(.global 13)]) 1,
  op 15 (.buildSlice 1 1 #[(0, (.const (.agg #[(I 0)]))), (1, (.global 14))]) 1,
  op 5 (.move (.global 15))])
(.seq (.seq (reg [op 16 (.fieldAddr 3 (.tmp 1) 1) 1,
  op 17 (.lookup 0 (.tmp 1) (.global 16) false),
  op 18 (bi .len #[(.tmp 17)] 1),
  op 19 (.move (.const (I 0)))])
(.block 0
  (.loop
    (.seq (reg [op 20 (.binOp .lss 0 (.tmp 19) (.tmp 18) 0)])
    (.seq (.cond (.tmp 20)
      .skip
      (.exit 0))
    (.seq (.block 1
      (.seq (reg [op 21 (.indexAddr 7 (.tmp 17) (.tmp 19)) 1,
        op 22 (.load 4 (.global 21)) 1,
        op 7 (.move (.const (.agg #[(I 0), (I 0), (I 0)]))),
        op 7 (.insert 3 (.tmp 7) (.tmp 7) (.global 22))])
      (.seq (reg [op 23 (.fieldAddr 2 (.tmp 4) 1) 1,
        op 24 (.lookup 0 (.tmp 4) (.global 23) false) 1,
        op 25 (.fieldAddr 0 (.tmp 7) 1) 1,
        op 26 (.lookup 0 (.tmp 7) (.global 25) false) 1,
        op 27 (.fieldAddr 2 (.tmp 7) 1) 1,
        op 28 (.lookup 0 (.tmp 7) (.global 27) false) 1,
        op 29 (.indexAddr 3 (.global 24) (.global 26)) 1,
        opn (.store 1 (.global 29) (.global 28))])
      (reg [op 30 (.move (.tmp 5)) 1,
        op 31 (.lookup 4 (.tmp 4) (.tmp 4) false) 1,
        op 32 (call (.func 154) #[(.global 31)]) 1,
        op 33 (.buildSlice 1 1 #[(0, (.const (.agg #[(I 0)]))), (1, (.global 32))]) 1,
        op 34 (bi .append #[(.global 30), (.global 33)] 1) 1,
        op 5 (.move (.global 34))]))))
    (reg [op 35 (.binOp .add 0 (.tmp 19) (.const (I 1)) 0) 1,
      op 19 (.move (.global 35))])))))))
(.seq (reg [op 36 (.move (.tmp 5)) 1,
  op 2 (.move (.global 36)),
  op 3 (.move (.const (I 0)))])
.ret)))))), [(2, 0), (3, 0)]⟩

/-- spec.CountCurves -/
def fn340 : AFun := ⟨1,
(.seq (reg [op 1 (.box 3 (.tmp 0)),
  op 2 (.move (.const (I 0))),
  op 3 (.move (.const (I 0)))])
(.seq (.seq (reg [op 4 (call (.func 452) #[(.tmp 1)]) 1,
  op 5 (.unOp .not 0 (.global 4))])
(.cond (.tmp 5)
  (.seq (reg [op 2 (.move (.const (I 0))),
    op 3 (.move (.const (I 1)))])
  .ret)
  .skip))
(.seq (reg [op 6 (call (.func 465) #[(.tmp 1)]) 1,
  op 2 (.move (.global 6)),
  op 3 (.move (.const (I 0)))])
.ret))), [(2, 0), (3, 0)]⟩

/-- laws.a2At -/
def fn257 : AFun := ⟨3,
(.seq (reg [op 6 (.move (.const (I 0)))])
(.seq (.seq (reg [op 7 (.move (.tmp 1)) 1,
  op 8 (.move (.tmp 0)) 1,
  op 9 (bi .len #[(.global 8)] 1) 1,
  op 10 (.binOp .geq 0 (.global 7) (.global 9) 0) 1,
  op 11 (.move (.global 10)) 1,
  op 12 (.move (.tmp 2)) 1 (some (45, false)),
  op 13 (.binOp .lss 0 (.global 12) (.const (I 1)) 0) 1 (some (45, false)),
  op 14 (.pick (.global 11) (.const (B true)) (.global 13))])
(.cond (.tmp 14)
  (.seq (reg [op 6 (.move (.const (I 0)))])
  .ret)
  .skip))
(.seq (reg [op 15 (.move (.tmp 0)) 1,
  op 16 (.move (.tmp 1)) 1,
  op 17 (.indexAddr 3 (.global 15) (.global 16)) 1,
  op 18 (.load 0 (.global 17)) 1,
  op 19 (.convert 0 3 (.global 18)) 1,
  op 20 (.move (.tmp 2)) 1,
  op 21 (.binOp .rem 0 (.global 19) (.global 20) 0) 1,
  op 6 (.move (.global 21))])
.ret))), [(6, 0)]⟩

/-- impl.DoStep -/
def fn82 : AFun := ⟨3,
(.seq (reg [op 3 (.makeChan 5 (.tmp 0)),
  op 6 (.move (.const (.agg #[(I 0), (I 0), (sl 0 0 0 0), (sl 0 0 0 0), (sl 0 0 0 0)]))),
  op 7 (.move (.const (I 0)))])
(.seq (.block 0
  (.seq (reg [op 10 (.lookup 6 (.tmp 3) (.tmp 3) false) 1,
    op 11 (call (.func 138) #[(.global 10)]) 1,
    op 12 (.unOp .not 0 (.global 11)) 1,
    op 9 (.move (.global 12))])
  (.cond (.tmp 9)
    (.seq (reg [op 13 (.build 0 #[(0, (.const (.agg #[(I 0), (I 0), (sl 0 0 0 0), (sl 0 0 0 0), (sl 0 0 0 0)])))]) 1,
      op 6 (.insert 5 (.tmp 6) (.tmp 6) (.global 13)),
      op 7 (.move (.const (I 1)))])
    .ret)
    (.seq (reg [op 15 (.move (.tmp 1)) 1,
      op 16 (.fieldAddr 0 (.tmp 3) 1) 1,
      op 17 (.fieldAddr 2 (.global 16) 1) 1,
      op 18 (.lookup 0 (.tmp 3) (.global 17) false) 1,
      op 19 (bi .len #[(.global 18)] 1) 1,
      op 20 (call (.func 163) #[(.global 15), (.global 19)]) 1,
      op 21 (.unOp .not 0 (.global 20)) 1,
      op 22 (.move (.global 21)) 1,
      op 23 (.move (.tmp 2)) 1 (some (89, false)),
      op 24 (call (.func 196) #[(.global 23)]) 1 (some (89, false)),
      op 25 (.unOp .not 0 (.global 24)) 1 (some (89, false)),
      op 26 (.pick (.global 22) (.const (B true)) (.global 25)) 1,
      op 14 (.move (.global 26))])
    (.cond (.tmp 14)
      (.seq (reg [op 27 (.build 0 #[(0, (.const (.agg #[(I 0), (I 0), (sl 0 0 0 0), (sl 0 0 0 0), (sl 0 0 0 0)])))]) 1,
        op 6 (.insert 5 (.tmp 6) (.tmp 6) (.global 27)),
        op 7 (.move (.const (I 2)))])
      .ret)
      (.seq (reg [op 29 (.fieldAddr 0 (.tmp 3) 1) 1,
        op 30 (.fieldAddr 2 (.global 29) 1) 1,
        op 31 (.lookup 0 (.tmp 3) (.global 30) false) 1,
        op 32 (.move (.tmp 1)) 1,
        op 33 (.indexAddr 3 (.global 31) (.global 32)) 1,
        op 34 (.load 0 (.global 33)) 1,
        op 35 (.move (.tmp 2)) 1,
        op 36 (.binOp .eql 0 (.global 34) (.global 35) 0) 1,
        op 28 (.move (.global 36))])
      (.cond (.tmp 28)
        (.seq (reg [op 37 (.build 0 #[(0, (.const (.agg #[(I 0), (I 0), (sl 0 0 0 0), (sl 0 0 0 0), (sl 0 0 0 0)])))]) 1,
          op 6 (.insert 5 (.tmp 6) (.tmp 6) (.global 37)),
          op 7 (.move (.const (I 6)))])
        .ret)
        (.seq (reg [op 39 (.fieldAddr 3 (.tmp 3) 1) 1,
          op 40 (.lookup 0 (.tmp 3) (.global 39) false) 1,
          op 41 (bi .len #[(.global 40)] 1) 1,
          op 42 (.binOp .eql 0 (.global 41) (.const (I 50)) 0) 1,
          op 38 (.move (.global 42))])
        (.cond (.tmp 38)
          (.seq (reg [op 43 (.build 0 #[(0, (.const (.agg #[(I 0), (I 0), (sl 0 0 0 0), (sl 0 0 0 0), (sl 0 0 0 0)])))]) 1,
            op 6 (.insert 5 (.tmp 6) (.tmp 6) (.global 43)),
            op 7 (.move (.const (I 5)))])
          .ret)
          .skip)))))))))
(.seq (reg [op 44 (.lookup 6 (.tmp 3) (.tmp 3) false) 1,
  op 45 (call (.func 148) #[(.global 44)]) 1,
  op 8 (.move (.const (.agg #[(I 0), (I 0), (sl 0 0 0 0), (sl 0 0 0 0), (sl 0 0 0 0)]))),
  op 8 (.insert 5 (.tmp 8) (.tmp 8) (.global 45))])
(.seq (reg [op 46 (.fieldAddr 3 (.tmp 8) 1) 1,
  op 47 (.lookup 0 (.tmp 8) (.global 46) false) 1,
  op 48 (.move (.tmp 1)) 1,
  op 49 (.fieldAddr 0 (.tmp 8) 1) 1,
  op 50 (.fieldAddr 2 (.global 49) 1) 1,
  op 51 (.lookup 0 (.tmp 8) (.global 50) false) 1,
  op 52 (.move (.tmp 1)) 1,
  op 53 (.indexAddr 3 (.global 51) (.global 52)) 1,
  op 54 (.load 0 (.global 53)) 1,
  op 55 (.move (.tmp 2)) 1,
  op 56 (.build 0 #[(0, (.const (.agg #[(I 0), (I 0), (I 0)]))), (1, (.global 48)), (1001, (.global 54)), (2001, (.global 55))]) 1,
  op 57 (.buildSlice 3 1 #[(0, (.const (.agg #[(I 0), (I 0), (I 0)]))), (3, (.global 56))]) 1,
  op 58 (bi .append #[(.global 47), (.global 57)] 3) 1,
  op 59 (.fieldAddr 3 (.tmp 8) 1) 1,
  op 8 (.insert 1 (.tmp 8) (.global 59) (.global 58))])
(.seq (reg [op 60 (.fieldAddr 0 (.tmp 8) 1) 1,
  op 61 (.fieldAddr 2 (.global 60) 1) 1,
  op 62 (.lookup 0 (.tmp 8) (.global 61) false) 1,
  op 63 (.move (.tmp 1)) 1,
  op 64 (.move (.tmp 2)) 1,
  op 65 (.indexAddr 3 (.global 62) (.global 63)) 1,
  opn (.store 1 (.global 65) (.global 64))])
(.seq (reg [op 66 (.fieldAddr 4 (.tmp 8) 1) 1,
  op 8 (.insert 1 (.tmp 8) (.global 66) (.const (sl 0 0 0 0)))])
(.seq (reg [op 67 (.lookup 6 (.tmp 8) (.tmp 8) false) 1,
  op 6 (.insert 5 (.tmp 6) (.tmp 6) (.global 67)),
  op 7 (.move (.const (I 0)))])
.ret))))))), [(6, 1000006), (7, 0)]⟩

/-- impl.UndoStep -/
def fn134 : AFun := ⟨1,
(.seq (reg [op 1 (.makeChan 5 (.tmp 0)),
  op 2 (.move (.const (.agg #[(I 0), (I 0), (sl 0 0 0 0), (sl 0 0 0 0), (sl 0 0 0 0)]))),
  op 3 (.move (.const (I 0)))])
(.seq (.seq (reg [op 5 (.lookup 6 (.tmp 1) (.tmp 1) false) 1,
  op 6 (call (.func 138) #[(.global 5)]) 1,
  op 7 (.unOp .not 0 (.global 6))])
(.cond (.tmp 7)
  (.seq (reg [op 8 (.build 0 #[(0, (.const (.agg #[(I 0), (I 0), (sl 0 0 0 0), (sl 0 0 0 0), (sl 0 0 0 0)])))]) 1,
    op 2 (.insert 5 (.tmp 2) (.tmp 2) (.global 8)),
    op 3 (.move (.const (I 1)))])
  .ret)
  .skip))
(.seq (.seq (reg [op 9 (.fieldAddr 3 (.tmp 1) 1) 1,
  op 10 (.lookup 0 (.tmp 1) (.global 9) false) 1,
  op 11 (bi .len #[(.global 10)] 1) 1,
  op 12 (.binOp .eql 0 (.global 11) (.const (I 0)) 0)])
(.cond (.tmp 12)
  (.seq (reg [op 13 (.build 0 #[(0, (.const (.agg #[(I 0), (I 0), (sl 0 0 0 0), (sl 0 0 0 0), (sl 0 0 0 0)])))]) 1,
    op 2 (.insert 5 (.tmp 2) (.tmp 2) (.global 13)),
    op 3 (.move (.const (I 6)))])
  .ret)
  .skip))
(.seq (reg [op 14 (.lookup 6 (.tmp 1) (.tmp 1) false) 1,
  op 15 (call (.func 148) #[(.global 14)]) 1,
  op 4 (.box 5 (.const (.agg #[(I 0), (I 0), (sl 0 0 0 0), (sl 0 0 0 0), (sl 0 0 0 0)]))),
  opn (.store 5 (.tmp 4) (.global 15))])
(.seq (reg [op 16 (call (.func 2) #[(.tmp 4)]) 1])
(.seq (reg [op 17 (.load 6 (.tmp 4)) 1,
  op 2 (.insert 5 (.tmp 2) (.tmp 2) (.global 17)),
  op 3 (.move (.const (I 0)))])
.ret)))))), [(2, 1000006), (3, 0)]⟩

/-- impl.RedoStep -/
def fn123 : AFun := ⟨1,
(.seq (reg [op 1 (.makeChan 5 (.tmp 0)),
  op 2 (.move (.const (.agg #[(I 0), (I 0), (sl 0 0 0 0), (sl 0 0 0 0), (sl 0 0 0 0)]))),
  op 3 (.move (.const (I 0)))])
(.seq (.seq (reg [op 5 (.lookup 6 (.tmp 1) (.tmp 1) false) 1,
  op 6 (call (.func 138) #[(.global 5)]) 1,
  op 7 (.unOp .not 0 (.global 6))])
(.cond (.tmp 7)
  (.seq (reg [op 8 (.build 0 #[(0, (.const (.agg #[(I 0), (I 0), (sl 0 0 0 0), (sl 0 0 0 0), (sl 0 0 0 0)])))]) 1,
    op 2 (.insert 5 (.tmp 2) (.tmp 2) (.global 8)),
    op 3 (.move (.const (I 1)))])
  .ret)
  .skip))
(.seq (.seq (reg [op 9 (.fieldAddr 4 (.tmp 1) 1) 1,
  op 10 (.lookup 0 (.tmp 1) (.global 9) false) 1,
  op 11 (bi .len #[(.global 10)] 1) 1,
  op 12 (.binOp .eql 0 (.global 11) (.const (I 0)) 0)])
(.cond (.tmp 12)
  (.seq (reg [op 13 (.build 0 #[(0, (.const (.agg #[(I 0), (I 0), (sl 0 0 0 0), (sl 0 0 0 0), (sl 0 0 0 0)])))]) 1,
    op 2 (.insert 5 (.tmp 2) (.tmp 2) (.global 13)),
    op 3 (.move (.const (I 6)))])
  .ret)
  .skip))
(.seq (reg [op 14 (.lookup 6 (.tmp 1) (.tmp 1) false) 1,
  op 15 (call (.func 148) #[(.global 14)]) 1,
  op 4 (.box 5 (.const (.agg #[(I 0), (I 0), (sl 0 0 0 0), (sl 0 0 0 0), (sl 0 0 0 0)]))),
  opn (.store 5 (.tmp 4) (.global 15))])
(.seq (reg [op 16 (call (.func 1) #[(.tmp 4)]) 1])
(.seq (reg [op 17 (.load 6 (.tmp 4)) 1,
  op 2 (.insert 5 (.tmp 2) (.tmp 2) (.global 17)),
  op 3 (.move (.const (I 0)))])
.ret)))))), [(2, 1000006), (3, 0)]⟩

/-- spec.SameJournal -/
def fn418 : AFun := ⟨2,
(.seq (reg [op 2 (.box 5 (.tmp 0)),
  op 3 (.box 5 (.tmp 1)),
  op 4 (.move (.const (B false)))])
(.seq (reg [op 5 (.fieldAddr 0 (.tmp 2) 0) 1,
  op 6 (.fieldAddr 0 (.tmp 3) 0) 1,
  op 7 (call (.func 456) #[(.global 5), (.global 6)]) 1,
  op 8 (.move (.global 7)) 1,
  op 9 (.fieldAddr 3 (.tmp 2) 0) 1 (some (33, true)),
  op 10 (.load 0 (.global 9)) 1 (some (33, true)),
  op 11 (.fieldAddr 3 (.tmp 3) 0) 1 (some (33, true)),
  op 12 (.load 0 (.global 11)) 1 (some (33, true)),
  op 13 (call (.func 563) #[(.global 10), (.global 12)]) 1 (some (33, true)),
  op 14 (.pick (.global 8) (.global 13) (.const (B false))) 1,
  op 15 (.move (.global 14)) 1,
  op 16 (.fieldAddr 4 (.tmp 2) 0) 1 (some (61, true)),
  op 17 (.load 0 (.global 16)) 1 (some (61, true)),
  op 18 (.fieldAddr 4 (.tmp 3) 0) 1 (some (61, true)),
  op 19 (.load 0 (.global 18)) 1 (some (61, true)),
  op 20 (call (.func 563) #[(.global 17), (.global 19)]) 1 (some (61, true)),
  op 21 (.pick (.global 15) (.global 20) (.const (B false))) 1,
  op 4 (.move (.global 21))])
.ret)), [(4, 0)]⟩

/-- impl.GoToStep -/
def fn86 : AFun := ⟨2,
(.seq (reg [op 2 (.makeChan 5 (.tmp 0)),
  op 4 (.move (.const (.agg #[(I 0), (I 0), (sl 0 0 0 0), (sl 0 0 0 0), (sl 0 0 0 0)]))),
  op 5 (.move (.const (I 0)))])
(.seq (.seq (reg [op 7 (.lookup 6 (.tmp 2) (.tmp 2) false) 1,
  op 8 (call (.func 138) #[(.global 7)]) 1,
  op 9 (.unOp .not 0 (.global 8))])
(.cond (.tmp 9)
  (.seq (reg [op 10 (.build 0 #[(0, (.const (.agg #[(I 0), (I 0), (sl 0 0 0 0), (sl 0 0 0 0), (sl 0 0 0 0)])))]) 1,
    op 4 (.insert 5 (.tmp 4) (.tmp 4) (.global 10)),
    op 5 (.move (.const (I 1)))])
  .ret)
  .skip))
(.seq (.seq (reg [op 11 (.move (.tmp 1)) 1,
  op 12 (.fieldAddr 3 (.tmp 2) 1) 1,
  op 13 (.lookup 0 (.tmp 2) (.global 12) false) 1,
  op 14 (bi .len #[(.global 13)] 1) 1,
  op 15 (.fieldAddr 4 (.tmp 2) 1) 1,
  op 16 (.lookup 0 (.tmp 2) (.global 15) false) 1,
  op 17 (bi .len #[(.global 16)] 1) 1,
  op 18 (.binOp .add 0 (.global 14) (.global 17) 0) 1,
  op 19 (call (.func 164) #[(.global 11), (.const (I 0)), (.global 18)]) 1,
  op 20 (.unOp .not 0 (.global 19))])
(.cond (.tmp 20)
  (.seq (reg [op 21 (.build 0 #[(0, (.const (.agg #[(I 0), (I 0), (sl 0 0 0 0), (sl 0 0 0 0), (sl 0 0 0 0)])))]) 1,
    op 4 (.insert 5 (.tmp 4) (.tmp 4) (.global 21)),
    op 5 (.move (.const (I 2)))])
  .ret)
  .skip))
(.seq (reg [op 22 (.lookup 6 (.tmp 2) (.tmp 2) false) 1,
  op 23 (call (.func 148) #[(.global 22)]) 1,
  op 6 (.box 5 (.const (.agg #[(I 0), (I 0), (sl 0 0 0 0), (sl 0 0 0 0), (sl 0 0 0 0)]))),
  opn (.store 5 (.tmp 6) (.global 23))])
(.seq (.block 0
  (.loop
    (.seq (.seq (reg [op 24 (.fieldAddr 3 (.tmp 6) 0) 1,
      op 25 (.load 0 (.global 24)) 1,
      op 26 (bi .len #[(.global 25)] 1) 1,
      op 27 (.move (.tmp 1)) 1,
      op 28 (.binOp .gtr 0 (.global 26) (.global 27) 0)])
    (.cond (.tmp 28)
      .skip
      (.exit 0)))
    (.block 1
      (reg [op 29 (call (.func 2) #[(.tmp 6)]) 1])))))
(.seq (.block 2
  (.loop
    (.seq (.seq (reg [op 30 (.fieldAddr 3 (.tmp 6) 0) 1,
      op 31 (.load 0 (.global 30)) 1,
      op 32 (bi .len #[(.global 31)] 1) 1,
      op 33 (.move (.tmp 1)) 1,
      op 34 (.binOp .lss 0 (.global 32) (.global 33) 0)])
    (.cond (.tmp 34)
      .skip
      (.exit 2)))
    (.block 3
      (reg [op 35 (call (.func 1) #[(.tmp 6)]) 1])))))
(.seq (reg [op 36 (.load 6 (.tmp 6)) 1,
  op 4 (.insert 5 (.tmp 4) (.tmp 4) (.global 36)),
  op 5 (.move (.const (I 0)))])
.ret))))))), [(4, 1000006), (5, 0)]⟩

/-- impl.StartOf -/
def fn133 : AFun := ⟨1,
(.seq (reg [op 1 (.makeChan 5 (.tmp 0)),
  op 2 (.move (.const (.agg #[(I 0), (I 0), (sl 0 0 0 0)]))),
  op 3 (.move (.const (I 0)))])
(.seq (.seq (reg [op 4 (.lookup 6 (.tmp 1) (.tmp 1) false) 1,
  op 5 (call (.func 138) #[(.global 4)]) 1,
  op 6 (.unOp .not 0 (.global 5))])
(.cond (.tmp 6)
  (.seq (reg [op 7 (.build 0 #[(0, (.const (.agg #[(I 0), (I 0), (sl 0 0 0 0)])))]) 1,
    op 2 (.insert 3 (.tmp 2) (.tmp 2) (.global 7)),
    op 3 (.move (.const (I 1)))])
  .ret)
  .skip))
(.seq (reg [op 8 (.lookup 6 (.tmp 1) (.tmp 1) false) 1,
  op 9 (call (.func 22) #[(.global 8)]) 1,
  op 2 (.insert 3 (.tmp 2) (.tmp 2) (.global 9)),
  op 3 (.move (.const (I 0)))])
.ret))), [(2, 1000004), (3, 0)]⟩

/-- spec.DrawDiffPanels -/
def fn352 : AFun := ⟨1,
(.seq (reg [op 2 (.move (.const (.agg #[(I 0), (I 0), (sl 0 0 0 0)]))),
  op 3 (.move (.const (.agg #[(I 0), (I 0), (sl 0 0 0 0)])))])
(.seq (reg [op 6 (.move (.tmp 0)) 1,
  op 7 (call (.func 431) #[(.global 6)]) 1,
  op 4 (.move (.global 7))])
(.seq (reg [op 8 (.move (.tmp 4)) 1,
  op 9 (call (.func 443) #[(.global 8)]) 1,
  op 5 (.box 3 (.const (.agg #[(I 0), (I 0), (sl 0 0 0 0)]))),
  opn (.store 3 (.tmp 5) (.global 9))])
(.seq (.seq (reg [op 10 (.move (.tmp 4)) 1,
  op 11 (call (.func 6) #[(.global 10), (.const (I 5))])])
(.cond (.tmp 11)
  (.seq (reg [op 12 (.load 4 (.tmp 5)) 1,
    op 13 (.move (.tmp 4)) 1,
    op 14 (call (.func 443) #[(.global 13)]) 3,
    op 2 (.insert 3 (.tmp 2) (.tmp 2) (.global 12)),
    op 3 (.insert 3 (.tmp 3) (.tmp 3) (.global 14))])
  .ret)
  .skip))
(.seq (reg [op 15 (.load 4 (.tmp 5)) 1,
  op 16 (.move (.tmp 4)) 1,
  op 17 (call (.func 555) #[(.global 16), (.tmp 5)]) 3,
  op 2 (.insert 3 (.tmp 2) (.tmp 2) (.global 15)),
  op 3 (.insert 3 (.tmp 3) (.tmp 3) (.global 17))])
.ret))))), [(2, 1000004), (3, 1000004)]⟩

/-- impl.DiffPanels -/
def fn79 : AFun := ⟨2,
(.seq (reg [op 2 (.makeChan 3 (.tmp 0)),
  op 3 (.makeChan 3 (.tmp 1)),
  op 4 (.move (.const (sl 0 0 0 0))),
  op 5 (.move (.const (I 0)))])
(.seq (.seq (reg [op 9 (.lookup 4 (.tmp 2) (.tmp 2) false) 1,
  op 10 (call (.func 140) #[(.global 9)]) 1,
  op 11 (.unOp .not 0 (.global 10)) 1,
  op 12 (.move (.global 11)) 1,
  op 13 (.lookup 4 (.tmp 3) (.tmp 3) false) 1 (some (49, false)),
  op 14 (call (.func 140) #[(.global 13)]) 1 (some (49, false)),
  op 15 (.unOp .not 0 (.global 14)) 1 (some (49, false)),
  op 16 (.pick (.global 12) (.const (B true)) (.global 15))])
(.cond (.tmp 16)
  (.seq (reg [op 4 (.move (.const (sl 0 0 0 0))),
    op 5 (.move (.const (I 1)))])
  .ret)
  .skip))
(.seq (.seq (reg [op 17 (.lookup 4 (.tmp 2) (.tmp 2) false) 1,
  op 18 (.lookup 4 (.tmp 3) (.tmp 3) false) 1,
  op 19 (call (.func 186) #[(.global 17), (.global 18)]) 1,
  op 20 (.unOp .not 0 (.global 19))])
(.cond (.tmp 20)
  (.seq (reg [op 4 (.move (.const (sl 0 0 0 0))),
    op 5 (.move (.const (I 6)))])
  .ret)
  .skip))
(.seq (reg [op 21 (.move (.const (sl 0 0 0 3))) 1,
  op 6 (.move (.global 21))])
(.seq (.seq (reg [op 22 (.fieldAddr 2 (.tmp 2) 1) 1,
  op 23 (.lookup 0 (.tmp 2) (.global 22) false),
  op 24 (bi .len #[(.tmp 23)] 1),
  op 25 (.move (.const (I 0)))])
(.block 0
  (.loop
    (.seq (reg [op 26 (.binOp .lss 0 (.tmp 25) (.tmp 24) 0)])
    (.seq (.cond (.tmp 26)
      .skip
      (.exit 0))
    (.seq (.block 1
      (.seq (reg [op 27 (.move (.tmp 25)) 1,
        op 28 (.indexAddr 3 (.tmp 23) (.tmp 25)) 1,
        op 29 (.load 0 (.global 28)) 1,
        op 7 (.move (.global 27)),
        op 8 (.move (.global 29))])
      (.seq (reg [op 30 (.move (.tmp 8)) 1,
        op 31 (.fieldAddr 2 (.tmp 3) 1) 1,
        op 32 (.lookup 0 (.tmp 3) (.global 31) false) 1,
        op 33 (.move (.tmp 7)) 1,
        op 34 (.indexAddr 3 (.global 32) (.global 33)) 1,
        op 35 (.load 0 (.global 34)) 1,
        op 36 (.binOp .neq 0 (.global 30) (.global 35) 0)])
      (.cond (.tmp 36)
        (reg [op 37 (.move (.tmp 6)) 1,
          op 38 (.move (.tmp 7)) 1,
          op 39 (.move (.tmp 8)) 1,
          op 40 (.fieldAddr 2 (.tmp 3) 1) 1,
          op 41 (.lookup 0 (.tmp 3) (.global 40) false) 1,
          op 42 (.move (.tmp 7)) 1,
          op 43 (.indexAddr 3 (.global 41) (.global 42)) 1,
          op 44 (.load 0 (.global 43)) 1,
          op 45 (.build 0 #[(0, (.const (.agg #[(I 0), (I 0), (I 0)]))), (1, (.global 38)), (1001, (.global 39)), (2001, (.global 44))]) 1,
          op 46 (.buildSlice 3 1 #[(0, (.const (.agg #[(I 0), (I 0), (I 0)]))), (3, (.global 45))]) 1,
          op 47 (bi .append #[(.global 37), (.global 46)] 3) 1,
          op 6 (.move (.global 47))])
        .skip))))
    (reg [op 48 (.binOp .add 0 (.tmp 25) (.const (I 1)) 0) 1,
      op 25 (.move (.global 48))])))))))
(.seq (reg [op 49 (.move (.tmp 6)) 1,
  op 4 (.move (.global 49)),
  op 5 (.move (.const (I 0)))])
.ret)))))), [(4, 0), (5, 0)]⟩

/-- spec.DiffPanels -/
def fn346 : AFun := ⟨2,
(.seq (reg [op 2 (.box 3 (.tmp 0)),
  op 3 (.box 3 (.tmp 1)),
  op 4 (.move (.const (sl 0 0 0 0))),
  op 5 (.move (.const (I 0)))])
(.seq (reg [op 9 (.buildSlice 1 2 #[(0, (.const (.agg #[(.pointer none), (.pointer none)]))), (1, (.tmp 2)), (1001, (.tmp 3))]) 1,
  op 10 (call (.func 552) #[(.global 9)]) 1,
  op 6 (.move (.global 10))])
(.seq (.seq (reg [op 11 (.move (.tmp 6)) 1,
  op 12 (.binOp .neq 0 (.global 11) (.const (I 0)) 0)])
(.cond (.tmp 12)
  (.seq (reg [op 13 (.move (.tmp 6)) 1,
    op 4 (.move (.const (sl 0 0 0 0))),
    op 5 (.move (.global 13))])
  .ret)
  .skip))
(.seq (reg [op 14 (.move (.const (sl 0 0 0 3))) 1,
  op 7 (.move (.global 14))])
(.seq (.seq (reg [op 8 (.move (.const (I 0)))])
(.block 0
  (.loop
    (.seq (.seq (reg [op 15 (.move (.tmp 8)) 1,
      op 16 (.fieldAddr 2 (.tmp 2) 0) 1,
      op 17 (.load 0 (.global 16)) 1,
      op 18 (bi .len #[(.global 17)] 1) 1,
      op 19 (.binOp .lss 0 (.global 15) (.global 18) 0)])
    (.cond (.tmp 19)
      .skip
      (.exit 0)))
    (.seq (.block 1
      (.seq (reg [op 22 (.fieldAddr 2 (.tmp 2) 0) 1,
        op 23 (.load 0 (.global 22)) 1,
        op 24 (.move (.tmp 8)) 1,
        op 25 (.indexAddr 3 (.global 23) (.global 24)) 1,
        op 26 (.load 0 (.global 25)) 1,
        op 27 (.fieldAddr 2 (.tmp 3) 0) 1,
        op 28 (.load 0 (.global 27)) 1,
        op 29 (.move (.tmp 8)) 1,
        op 30 (.indexAddr 3 (.global 28) (.global 29)) 1,
        op 31 (.load 0 (.global 30)) 1,
        op 32 (.binOp .neq 0 (.global 26) (.global 31) 0)])
      (.cond (.tmp 32)
        (reg [op 33 (.move (.tmp 7)) 1,
          op 34 (.move (.tmp 8)) 1,
          op 35 (.fieldAddr 2 (.tmp 2) 0) 1,
          op 36 (.load 0 (.global 35)) 1,
          op 37 (.move (.tmp 8)) 1,
          op 38 (.indexAddr 3 (.global 36) (.global 37)) 1,
          op 39 (.load 0 (.global 38)) 1,
          op 40 (.fieldAddr 2 (.tmp 3) 0) 1,
          op 41 (.load 0 (.global 40)) 1,
          op 42 (.move (.tmp 8)) 1,
          op 43 (.indexAddr 3 (.global 41) (.global 42)) 1,
          op 44 (.load 0 (.global 43)) 1,
          op 45 (.build 0 #[(0, (.const (.agg #[(I 0), (I 0), (I 0)]))), (1, (.global 34)), (1001, (.global 39)), (2001, (.global 44))]) 1,
          op 46 (.buildSlice 3 1 #[(0, (.const (.agg #[(I 0), (I 0), (I 0)]))), (3, (.global 45))]) 1,
          op 47 (bi .append #[(.global 33), (.global 46)] 3) 1,
          op 7 (.move (.global 47))])
        .skip)))
    (reg [op 20 (.move (.tmp 8)) 1,
      op 21 (.binOp .add 0 (.global 20) (.const (I 1)) 0) 1,
      op 8 (.move (.global 21))]))))))
(.seq (reg [op 48 (.move (.tmp 7)) 1,
  op 4 (.move (.global 48)),
  op 5 (.move (.const (I 0)))])
.ret)))))), [(4, 0), (5, 0)]⟩

/-- spec.DrawApplyDiff -/
def fn350 : AFun := ⟨1,
(.seq (reg [op 2 (.move (.const (.agg #[(I 0), (I 0), (sl 0 0 0 0)]))),
  op 3 (.move (.const (sl 0 0 0 0)))])
(.seq (reg [op 6 (.move (.tmp 0)) 1,
  op 7 (call (.func 431) #[(.global 6)]) 1,
  op 4 (.move (.global 7))])
(.seq (reg [op 8 (.move (.tmp 4)) 1,
  op 9 (call (.func 443) #[(.global 8)]) 1,
  op 5 (.box 3 (.const (.agg #[(I 0), (I 0), (sl 0 0 0 0)]))),
  opn (.store 3 (.tmp 5) (.global 9))])
(.seq (reg [op 10 (.load 4 (.tmp 5)) 1,
  op 11 (.move (.tmp 4)) 1,
  op 12 (call (.func 547) #[(.global 11), (.tmp 5)]) 3,
  op 2 (.insert 3 (.tmp 2) (.tmp 2) (.global 10)),
  op 3 (.move (.global 12))])
.ret)))), [(2, 1000004), (3, 0)]⟩

/-- impl.ApplyDiff -/
def fn62 : AFun := ⟨2,
(.seq (reg [op 2 (.makeChan 3 (.tmp 0)),
  op 4 (.move (.const (.agg #[(I 0), (I 0), (sl 0 0 0 0)]))),
  op 5 (.move (.const (I 0)))])
(.seq (.seq (reg [op 9 (.lookup 4 (.tmp 2) (.tmp 2) false) 1,
  op 10 (call (.func 140) #[(.global 9)]) 1,
  op 11 (.unOp .not 0 (.global 10))])
(.cond (.tmp 11)
  (.seq (reg [op 12 (.build 0 #[(0, (.const (.agg #[(I 0), (I 0), (sl 0 0 0 0)])))]) 1,
    op 4 (.insert 3 (.tmp 4) (.tmp 4) (.global 12)),
    op 5 (.move (.const (I 1)))])
  .ret)
  .skip))
(.seq (reg [op 13 (.lookup 4 (.tmp 2) (.tmp 2) false) 1,
  op 14 (call (.func 150) #[(.global 13)]) 1,
  op 6 (.move (.const (.agg #[(I 0), (I 0), (sl 0 0 0 0)]))),
  op 6 (.insert 3 (.tmp 6) (.tmp 6) (.global 14))])
(.seq (.seq (reg [op 15 (.move (.tmp 1)),
  op 16 (bi .len #[(.tmp 15)] 1),
  op 17 (.move (.const (I 0)))])
(.block 0
  (.loop
    (.seq (reg [op 18 (.binOp .lss 0 (.tmp 17) (.tmp 16) 0)])
    (.seq (.cond (.tmp 18)
      .skip
      (.exit 0))
    (.seq (.block 1
      (.seq (reg [op 19 (.indexAddr 7 (.tmp 15) (.tmp 17)) 1,
        op 20 (.load 4 (.global 19)) 1,
        op 8 (.move (.const (.agg #[(I 0), (I 0), (I 0)]))),
        op 8 (.insert 3 (.tmp 8) (.tmp 8) (.global 20))])
      (.seq (.seq (reg [op 21 (.fieldAddr 0 (.tmp 8) 1) 1,
        op 22 (.lookup 0 (.tmp 8) (.global 21) false) 1,
        op 23 (.fieldAddr 2 (.tmp 6) 1) 1,
        op 24 (.lookup 0 (.tmp 6) (.global 23) false) 1,
        op 25 (bi .len #[(.global 24)] 1) 1,
        op 26 (call (.func 163) #[(.global 22), (.global 25)]) 1,
        op 27 (.unOp .not 0 (.global 26)) 1,
        op 28 (.move (.global 27)) 1,
        op 29 (.fieldAddr 2 (.tmp 8) 1) 1 (some (113, false)),
        op 30 (.lookup 0 (.tmp 8) (.global 29) false) 1 (some (113, false)),
        op 31 (call (.func 196) #[(.global 30)]) 1 (some (113, false)),
        op 32 (.unOp .not 0 (.global 31)) 1 (some (113, false)),
        op 33 (.pick (.global 28) (.const (B true)) (.global 32))])
      (.cond (.tmp 33)
        (.seq (reg [op 34 (.build 0 #[(0, (.const (.agg #[(I 0), (I 0), (sl 0 0 0 0)])))]) 1,
          op 4 (.insert 3 (.tmp 4) (.tmp 4) (.global 34)),
          op 5 (.move (.const (I 2)))])
        .ret)
        .skip))
      (.seq (.seq (reg [op 35 (.fieldAddr 2 (.tmp 6) 1) 1,
        op 36 (.lookup 0 (.tmp 6) (.global 35) false) 1,
        op 37 (.fieldAddr 0 (.tmp 8) 1) 1,
        op 38 (.lookup 0 (.tmp 8) (.global 37) false) 1,
        op 39 (.indexAddr 3 (.global 36) (.global 38)) 1,
        op 40 (.load 0 (.global 39)) 1,
        op 41 (.fieldAddr 1 (.tmp 8) 1) 1,
        op 42 (.lookup 0 (.tmp 8) (.global 41) false) 1,
        op 43 (.binOp .neq 0 (.global 40) (.global 42) 0)])
      (.cond (.tmp 43)
        (.seq (reg [op 44 (.build 0 #[(0, (.const (.agg #[(I 0), (I 0), (sl 0 0 0 0)])))]) 1,
          op 4 (.insert 3 (.tmp 4) (.tmp 4) (.global 44)),
          op 5 (.move (.const (I 9)))])
        .ret)
        .skip))
      (reg [op 45 (.fieldAddr 2 (.tmp 6) 1) 1,
        op 46 (.lookup 0 (.tmp 6) (.global 45) false) 1,
        op 47 (.fieldAddr 0 (.tmp 8) 1) 1,
        op 48 (.lookup 0 (.tmp 8) (.global 47) false) 1,
        op 49 (.fieldAddr 2 (.tmp 8) 1) 1,
        op 50 (.lookup 0 (.tmp 8) (.global 49) false) 1,
        op 51 (.indexAddr 3 (.global 46) (.global 48)) 1,
        opn (.store 1 (.global 51) (.global 50))])))))
    (reg [op 52 (.binOp .add 0 (.tmp 17) (.const (I 1)) 0) 1,
      op 17 (.move (.global 52))])))))))
(.seq (reg [op 53 (.lookup 4 (.tmp 6) (.tmp 6) false) 1,
  op 4 (.insert 3 (.tmp 4) (.tmp 4) (.global 53)),
  op 5 (.move (.const (I 0)))])
.ret))))), [(4, 1000004), (5, 0)]⟩

/-- spec.ApplyDiff -/
def fn331 : AFun := ⟨2,
(.seq (reg [op 2 (.box 3 (.tmp 0)),
  op 4 (.move (.const (.agg #[(I 0), (I 0), (sl 0 0 0 0)]))),
  op 5 (.move (.const (I 0)))])
(.seq (.seq (reg [op 9 (call (.func 452) #[(.tmp 2)]) 1,
  op 10 (.unOp .not 0 (.global 9))])
(.cond (.tmp 10)
  (.seq (reg [op 11 (.build 0 #[(0, (.const (.agg #[(I 0), (I 0), (sl 0 0 0 0)])))]) 1,
    op 4 (.insert 3 (.tmp 4) (.tmp 4) (.global 11)),
    op 5 (.move (.const (I 1)))])
  .ret)
  .skip))
(.seq (reg [op 12 (call (.func 453) #[(.tmp 2)]) 1,
  op 6 (.move (.const (.agg #[(I 0), (I 0), (sl 0 0 0 0)]))),
  op 6 (.insert 3 (.tmp 6) (.tmp 6) (.global 12))])
(.seq (.seq (reg [op 7 (.move (.const (I 0)))])
(.block 0
  (.loop
    (.seq (.seq (reg [op 13 (.move (.tmp 7)) 1,
      op 14 (.move (.tmp 1)) 1,
      op 15 (bi .len #[(.global 14)] 1) 1,
      op 16 (.binOp .lss 0 (.global 13) (.global 15) 0)])
    (.cond (.tmp 16)
      .skip
      (.exit 0)))
    (.seq (.block 1
      (.seq (reg [op 19 (.move (.tmp 1)) 1,
        op 20 (.move (.tmp 7)) 1,
        op 21 (.indexAddr 7 (.global 19) (.global 20)) 1,
        op 22 (.load 4 (.global 21)) 1,
        op 8 (.move (.const (.agg #[(I 0), (I 0), (I 0)]))),
        op 8 (.insert 3 (.tmp 8) (.tmp 8) (.global 22))])
      (.seq (.seq (reg [op 23 (.fieldAddr 0 (.tmp 8) 1) 1,
        op 24 (.lookup 0 (.tmp 8) (.global 23) false) 1,
        op 25 (.fieldAddr 2 (.tmp 6) 1) 1,
        op 26 (.lookup 0 (.tmp 6) (.global 25) false) 1,
        op 27 (bi .len #[(.global 26)] 1) 1,
        op 28 (.binOp .sub 0 (.global 27) (.const (I 1)) 0) 1,
        op 29 (call (.func 432) #[(.global 24), (.const (I 0)), (.global 28)]) 1,
        op 30 (.unOp .not 0 (.global 29)) 1,
        op 31 (.move (.global 30)) 1,
        op 32 (.fieldAddr 2 (.tmp 8) 1) 1 (some (125, false)),
        op 33 (.lookup 0 (.tmp 8) (.global 32) false) 1 (some (125, false)),
        op 34 (call (.func 449) #[(.global 33)]) 1 (some (125, false)),
        op 35 (.unOp .not 0 (.global 34)) 1 (some (125, false)),
        op 36 (.pick (.global 31) (.const (B true)) (.global 35))])
      (.cond (.tmp 36)
        (.seq (reg [op 37 (.build 0 #[(0, (.const (.agg #[(I 0), (I 0), (sl 0 0 0 0)])))]) 1,
          op 4 (.insert 3 (.tmp 4) (.tmp 4) (.global 37)),
          op 5 (.move (.const (I 2)))])
        .ret)
        .skip))
      (.seq (.seq (reg [op 38 (.fieldAddr 2 (.tmp 6) 1) 1,
        op 39 (.lookup 0 (.tmp 6) (.global 38) false) 1,
        op 40 (.fieldAddr 0 (.tmp 8) 1) 1,
        op 41 (.lookup 0 (.tmp 8) (.global 40) false) 1,
        op 42 (.indexAddr 3 (.global 39) (.global 41)) 1,
        op 43 (.load 0 (.global 42)) 1,
        op 44 (.fieldAddr 1 (.tmp 8) 1) 1,
        op 45 (.lookup 0 (.tmp 8) (.global 44) false) 1,
        op 46 (.binOp .neq 0 (.global 43) (.global 45) 0)])
      (.cond (.tmp 46)
        (.seq (reg [op 47 (.build 0 #[(0, (.const (.agg #[(I 0), (I 0), (sl 0 0 0 0)])))]) 1,
          op 4 (.insert 3 (.tmp 4) (.tmp 4) (.global 47)),
          op 5 (.move (.const (I 9)))])
        .ret)
        .skip))
      (reg [op 48 (.fieldAddr 2 (.tmp 6) 1) 1,
        op 49 (.lookup 0 (.tmp 6) (.global 48) false) 1,
        op 50 (.fieldAddr 0 (.tmp 8) 1) 1,
        op 51 (.lookup 0 (.tmp 8) (.global 50) false) 1,
        op 52 (.fieldAddr 2 (.tmp 8) 1) 1,
        op 53 (.lookup 0 (.tmp 8) (.global 52) false) 1,
        op 54 (.indexAddr 3 (.global 49) (.global 51)) 1,
        opn (.store 1 (.global 54) (.global 53))])))))
    (reg [op 17 (.move (.tmp 7)) 1,
      op 18 (.binOp .add 0 (.global 17) (.const (I 1)) 0) 1,
      op 7 (.move (.global 18))]))))))
(.seq (reg [op 55 (.lookup 4 (.tmp 6) (.tmp 6) false) 1,
  op 4 (.insert 3 (.tmp 4) (.tmp 4) (.global 55)),
  op 5 (.move (.const (I 0)))])
.ret))))), [(4, 1000004), (5, 0)]⟩

/-- spec.DrawDiffText -/
def fn353 : AFun := ⟨1,
(.seq (reg [op 2 (.move (.const (sl 0 0 0 0)))])
(.seq (reg [op 3 (.move (.tmp 0)) 1,
  op 4 (call (.func 354) #[(.global 3)]) 1,
  op 2 (.move (.global 4))])
.ret)), [(2, 0)]⟩

/-- impl.DiffText -/
def fn80 : AFun := ⟨1,
(.seq (reg [op 2 (.move (.const (S [])))])
(.seq (.seq (reg [op 6 (.move (.tmp 0)) 1,
  op 7 (call (.func 197) #[(.global 6)]) 1,
  op 8 (.unOp .not 0 (.global 7))])
(.cond (.tmp 8)
  (.seq (reg [op 2 (.move (.const (S [])))])
  .ret)
  .skip))
(.seq (reg [op 9 (.move (.const (sl 0 0 0 1))) 1,
  op 3 (.move (.global 9))])
(.seq (.seq (reg [op 10 (.move (.tmp 0)),
  op 11 (bi .len #[(.tmp 10)] 1),
  op 12 (.move (.const (I 0)))])
(.block 0
  (.loop
    (.seq (reg [op 13 (.binOp .lss 0 (.tmp 12) (.tmp 11) 0)])
    (.seq (.cond (.tmp 13)
      .skip
      (.exit 0))
    (.seq (.block 1
      (.seq (reg [op 14 (.indexAddr 7 (.tmp 10) (.tmp 12)) 1,
        op 15 (.load 4 (.global 14)) 1,
        op 5 (.move (.const (.agg #[(I 0), (I 0), (I 0)]))),
        op 5 (.insert 3 (.tmp 5) (.tmp 5) (.global 15))])
      (reg [op 16 (.move (.tmp 3)) 1,
        op 17 (.fieldAddr 0 (.tmp 5) 1) 1,
        op 18 (.lookup 0 (.tmp 5) (.global 17) false) 1,
        op 19 (call (.func 75) #[(.global 18)]) 1,
        op 20 (.fieldAddr 1 (.tmp 5) 1) 1,
        op 21 (.lookup 0 (.tmp 5) (.global 20) false) 1,
        op 22 (.fieldAddr 1 (.tmp 5) 1) 1,
        op 23 (.lookup 0 (.tmp 5) (.global 22) false) 1,
        op 24 (.binOp .add 0 (.global 23) (.const (I 1)) 0) 1,
        op 25 (.slice 0 (.const (S [43, 124, 45])) (some (.global 21)) (some (.global 24)) none) 1,
        op 26 (.binOp .add 0 (.global 19) (.global 25) 0) 1,
        op 27 (.fieldAddr 2 (.tmp 5) 1) 1,
        op 28 (.lookup 0 (.tmp 5) (.global 27) false) 1,
        op 29 (.fieldAddr 2 (.tmp 5) 1) 1,
        op 30 (.lookup 0 (.tmp 5) (.global 29) false) 1,
        op 31 (.binOp .add 0 (.global 30) (.const (I 1)) 0) 1,
        op 32 (.slice 0 (.const (S [43, 124, 45])) (some (.global 28)) (some (.global 31)) none) 1,
        op 33 (.binOp .add 0 (.global 26) (.global 32) 0) 1,
        op 34 (.buildSlice 1 1 #[(0, (.const (.agg #[(S [])]))), (1, (.global 33))]) 1,
        op 35 (bi .append #[(.global 16), (.global 34)] 1) 1,
        op 3 (.move (.global 35))])))
    (reg [op 36 (.binOp .add 0 (.tmp 12) (.const (I 1)) 0) 1,
      op 12 (.move (.global 36))])))))))
(.seq (reg [op 37 (.move (.tmp 3)) 1,
  op 38 (call (.func 167) #[(.global 37), (.const (S [32]))]) 1,
  op 2 (.move (.global 38))])
.ret))))), [(2, 0)]⟩

/-- impl.ReadDiff -/
def fn119 : AFun := ⟨1,
(.seq (reg [op 2 (.move (.const (sl 0 0 0 0))),
  op 3 (.move (.const (B false)))])
(.seq (reg [op 10 (.move (.const (sl 0 0 0 3))) 1,
  op 4 (.move (.global 10))])
(.seq (.seq (reg [op 11 (.move (.tmp 0)) 1,
  op 12 (.binOp .eql 0 (.global 11) (.const (S [])) 0)])
(.cond (.tmp 12)
  (.seq (reg [op 13 (.move (.tmp 4)) 1,
    op 2 (.move (.global 13)),
    op 3 (.move (.const (B true)))])
  .ret)
  .skip))
(.seq (.seq (reg [op 14 (.move (.tmp 0)) 1,
  op 15 (call (.func 189) #[(.global 14), (.const (U 32))]),
  op 16 (bi .len #[(.tmp 15)] 1),
  op 17 (.move (.const (I 0)))])
(.block 0
  (.loop
    (.seq (reg [op 18 (.binOp .lss 0 (.tmp 17) (.tmp 16) 0)])
    (.seq (.cond (.tmp 18)
      .skip
      (.exit 0))
    (.seq (.block 1
      (.seq (reg [op 19 (.indexAddr 3 (.tmp 15) (.tmp 17)) 1,
        op 20 (.load 0 (.global 19)) 1,
        op 6 (.move (.global 20))])
      (.seq (reg [op 21 (.move (.tmp 6)) 1,
        op 22 (bi .len #[(.global 21)] 0) 1,
        op 7 (.move (.global 22))])
      (.seq (.seq (reg [op 23 (.move (.tmp 7)) 1,
        op 24 (.binOp .lss 0 (.global 23) (.const (I 3)) 0) 1,
        op 25 (.move (.global 24)) 1,
        op 26 (.move (.tmp 4)) 1 (some (101, false)),
        op 27 (bi .len #[(.global 26)] 1) 1 (some (101, false)),
        op 28 (.binOp .eql 0 (.global 27) (.const (I 112)) 0) 1 (some (101, false)),
        op 29 (.pick (.global 25) (.const (B true)) (.global 28))])
      (.cond (.tmp 29)
        (.seq (reg [op 2 (.move (.const (sl 0 0 0 0))),
          op 3 (.move (.const (B false)))])
        .ret)
        .skip))
      (.seq (reg [op 31 (.move (.tmp 6)) 1,
        op 32 (.move (.tmp 7)) 1,
        op 33 (.binOp .sub 0 (.global 32) (.const (I 2)) 0) 1,
        op 34 (.slice 0 (.global 31) none (some (.global 33)) none) 1,
        op 35 (call (.func 118) #[(.global 34)]) 1,
        op 30 (.move (.global 35)) 1,
        op 36 (.extract (.global 30) 0) 1,
        op 37 (.extract (.global 30) 1) 1,
        op 8 (.move (.global 36)),
        op 9 (.move (.global 37))])
      (.seq (.seq (reg [op 38 (.move (.tmp 9)) 1,
        op 39 (.unOp .not 0 (.global 38))])
      (.cond (.tmp 39)
        (.seq (reg [op 2 (.move (.const (sl 0 0 0 0))),
          op 3 (.move (.const (B false)))])
        .ret)
        .skip))
      (reg [op 40 (.move (.tmp 4)) 1,
        op 41 (.move (.tmp 8)) 1,
        op 42 (.move (.tmp 6)) 1,
        op 43 (.move (.tmp 7)) 1,
        op 44 (.binOp .sub 0 (.global 43) (.const (I 2)) 0) 1,
        op 45 (.index 0 (.global 42) (.global 44)) 1,
        op 46 (call (.func 174) #[(.global 45)]) 1,
        op 47 (.move (.tmp 6)) 1,
        op 48 (.move (.tmp 7)) 1,
        op 49 (.binOp .sub 0 (.global 48) (.const (I 1)) 0) 1,
        op 50 (.index 0 (.global 47) (.global 49)) 1,
        op 51 (call (.func 174) #[(.global 50)]) 1,
        op 52 (.build 0 #[(0, (.const (.agg #[(I 0), (I 0), (I 0)]))), (1, (.global 41)), (1001, (.global 46)), (2001, (.global 51))]) 1,
        op 53 (.buildSlice 3 1 #[(0, (.const (.agg #[(I 0), (I 0), (I 0)]))), (3, (.global 52))]) 1,
        op 54 (bi .append #[(.global 40), (.global 53)] 3) 1,
        op 4 (.move (.global 54))])))))))
    (reg [op 55 (.binOp .add 0 (.tmp 17) (.const (I 1)) 0) 1,
      op 17 (.move (.global 55))])))))))
(.seq (.seq (reg [op 56 (.move (.tmp 4)) 1,
  op 57 (call (.func 197) #[(.global 56)]) 1,
  op 58 (.unOp .not 0 (.global 57))])
(.cond (.tmp 58)
  (.seq (reg [op 2 (.move (.const (sl 0 0 0 0))),
    op 3 (.move (.const (B false)))])
  .ret)
  .skip))
(.seq (reg [op 59 (.move (.tmp 4)) 1,
  op 2 (.move (.global 59)),
  op 3 (.move (.const (B true)))])
.ret)))))), [(2, 0), (3, 0)]⟩

/-- spec.DrawReadDiff -/
def fn368 : AFun := ⟨1,
(.seq (reg [op 2 (.move (.const (S [])))])
(.seq (reg [op 5 (.move (.tmp 0)) 1,
  op 6 (call (.func 431) #[(.global 5)]) 1,
  op 3 (.move (.global 6))])
(.seq (reg [op 7 (.move (.tmp 0)) 1,
  op 8 (call (.func 354) #[(.global 7)]) 1,
  op 4 (.move (.global 8))])
(.seq (.seq (reg [op 9 (.move (.tmp 4)) 1,
  op 10 (call (.func 550) #[(.global 9)]) 1,
  op 11 (.unOp .not 0 (.global 10))])
(.cond (.tmp 11)
  (.seq (reg [op 12 (.move (.tmp 3)) 1,
    op 13 (.buildSlice 1 7 #[(0, (.const (.agg #[(S []), (S []), (S []), (S []), (S []), (S []), (S [])]))), (1, (.const (S [48, 43]))), (1001, (.const (S [48, 43, 124, 45]))), (2001, (.const (S [49, 49, 50, 43, 124]))), (3001, (.const (S [49, 49, 49, 43, 124]))), (4001, (.const (S [120, 43, 124]))), (5001, (.const (S [48, 43, 124, 32, 32, 49, 45, 43]))), (6001, (.const (S [45, 49, 43, 124])))]) 1,
    op 14 (call (.func 8) #[(.global 12), (.global 13)]) 1,
    op 2 (.move (.global 14))])
  .ret)
  .skip))
(.seq (reg [op 15 (.move (.tmp 3)) 1,
  op 16 (.move (.tmp 4)) 1,
  op 17 (call (.func 553) #[(.global 16)]) 1,
  op 18 (call (.func 442) #[(.global 15), (.global 17)]) 1,
  op 2 (.move (.global 18))])
.ret))))), [(2, 0)]⟩

/-- spec.ReadDiff -/
def fn410 : AFun := ⟨1,
(.seq (reg [op 2 (.move (.const (sl 0 0 0 0))),
  op 3 (.move (.const (B false)))])
(.seq (reg [op 11 (.move (.const (sl 0 0 0 3))) 1,
  op 4 (.move (.global 11))])
(.seq (.seq (reg [op 12 (.move (.tmp 0)) 1,
  op 13 (.binOp .eql 0 (.global 12) (.const (S [])) 0)])
(.cond (.tmp 13)
  (.seq (reg [op 14 (.move (.tmp 4)) 1,
    op 2 (.move (.global 14)),
    op 3 (.move (.const (B true)))])
  .ret)
  .skip))
(.seq (reg [op 15 (.move (.tmp 0)) 1,
  op 16 (call (.func 441) #[(.global 15), (.const (U 32))]) 1,
  op 5 (.move (.global 16))])
(.seq (.seq (reg [op 6 (.move (.const (I 0)))])
(.block 0
  (.loop
    (.seq (.seq (reg [op 17 (.move (.tmp 6)) 1,
      op 18 (.move (.tmp 5)) 1,
      op 19 (bi .len #[(.global 18)] 1) 1,
      op 20 (.binOp .lss 0 (.global 17) (.global 19) 0)])
    (.cond (.tmp 20)
      .skip
      (.exit 0)))
    (.seq (.block 1
      (.seq (reg [op 23 (.move (.tmp 5)) 1,
        op 24 (.move (.tmp 6)) 1,
        op 25 (.indexAddr 3 (.global 23) (.global 24)) 1,
        op 26 (.load 0 (.global 25)) 1,
        op 27 (bi .len #[(.global 26)] 0) 1,
        op 7 (.move (.global 27))])
      (.seq (.seq (reg [op 28 (.move (.tmp 7)) 1,
        op 29 (.binOp .lss 0 (.global 28) (.const (I 3)) 0)])
      (.cond (.tmp 29)
        (.seq (reg [op 2 (.move (.const (sl 0 0 0 0))),
          op 3 (.move (.const (B false)))])
        .ret)
        .skip))
      (.seq (reg [op 31 (.move (.tmp 5)) 1,
        op 32 (.move (.tmp 6)) 1,
        op 33 (.indexAddr 3 (.global 31) (.global 32)) 1,
        op 34 (.load 0 (.global 33)) 1,
        op 35 (.move (.tmp 7)) 1,
        op 36 (.binOp .sub 0 (.global 35) (.const (I 2)) 0) 1,
        op 37 (.slice 0 (.global 34) none (some (.global 36)) none) 1,
        op 38 (call (.func 439) #[(.global 37)]) 1,
        op 30 (.move (.global 38)) 1,
        op 39 (.extract (.global 30) 0) 1,
        op 40 (.extract (.global 30) 1) 1,
        op 8 (.move (.global 39)),
        op 9 (.move (.global 40))])
      (.seq (reg [op 41 (.move (.tmp 8)) 1,
        op 42 (.move (.tmp 5)) 1,
        op 43 (.move (.tmp 6)) 1,
        op 44 (.indexAddr 3 (.global 42) (.global 43)) 1,
        op 45 (.load 0 (.global 44)) 1,
        op 46 (.move (.tmp 7)) 1,
        op 47 (.binOp .sub 0 (.global 46) (.const (I 2)) 0) 1,
        op 48 (.index 0 (.global 45) (.global 47)) 1,
        op 49 (call (.func 467) #[(.global 48)]) 3,
        op 50 (.move (.tmp 5)) 1,
        op 51 (.move (.tmp 6)) 1,
        op 52 (.indexAddr 3 (.global 50) (.global 51)) 1,
        op 53 (.load 0 (.global 52)) 1,
        op 54 (.move (.tmp 7)) 1,
        op 55 (.binOp .sub 0 (.global 54) (.const (I 1)) 0) 1,
        op 56 (.index 0 (.global 53) (.global 55)) 1,
        op 57 (call (.func 467) #[(.global 56)]) 1,
        op 58 (.build 0 #[(0, (.const (.agg #[(I 0), (I 0), (I 0)]))), (1, (.global 41)), (1001, (.global 49)), (2001, (.global 57))]) 1,
        op 10 (.move (.const (.agg #[(I 0), (I 0), (I 0)]))),
        op 10 (.insert 3 (.tmp 10) (.tmp 10) (.global 58))])
      (.seq (.seq (reg [op 59 (.move (.tmp 9)) 1,
        op 60 (.unOp .not 0 (.global 59))])
      (.cond (.tmp 60)
        (.seq (reg [op 2 (.move (.const (sl 0 0 0 0))),
          op 3 (.move (.const (B false)))])
        .ret)
        .skip))
      (reg [op 61 (.move (.tmp 4)) 1,
        op 62 (.lookup 4 (.tmp 10) (.tmp 10) false) 1,
        op 63 (.buildSlice 3 1 #[(0, (.const (.agg #[(I 0), (I 0), (I 0)]))), (3, (.global 62))]) 1,
        op 64 (bi .append #[(.global 61), (.global 63)] 3) 1,
        op 4 (.move (.global 64))])))))))
    (reg [op 21 (.move (.tmp 6)) 1,
      op 22 (.binOp .add 0 (.global 21) (.const (I 1)) 0) 1,
      op 6 (.move (.global 22))]))))))
(.seq (.seq (reg [op 65 (.move (.tmp 4)) 1,
  op 66 (call (.func 550) #[(.global 65)]) 1,
  op 67 (.unOp .not 0 (.global 66))])
(.cond (.tmp 67)
  (.seq (reg [op 2 (.move (.const (sl 0 0 0 0))),
    op 3 (.move (.const (B false)))])
  .ret)
  .skip))
(.seq (reg [op 68 (.move (.tmp 4)) 1,
  op 2 (.move (.global 68)),
  op 3 (.move (.const (B true)))])
.ret))))))), [(2, 0), (3, 0)]⟩

/-- laws.f6diffs -/
def fn270 : AFun := ⟨2,
(.seq (reg [op 4 (.move (.const (B false)))])
(.seq (.seq (reg [op 6 (.move (.tmp 0)) 1,
  op 7 (bi .len #[(.global 6)] 1) 1,
  op 8 (.move (.tmp 1)) 1,
  op 9 (bi .len #[(.global 8)] 1) 1,
  op 10 (.binOp .neq 0 (.global 7) (.global 9) 0)])
(.cond (.tmp 10)
  (.seq (reg [op 4 (.move (.const (B false)))])
  .ret)
  .skip))
(.seq (.seq (reg [op 5 (.move (.const (I 0)))])
(.block 0
  (.loop
    (.seq (.seq (reg [op 11 (.move (.tmp 5)) 1,
      op 12 (.move (.tmp 0)) 1,
      op 13 (bi .len #[(.global 12)] 1) 1,
      op 14 (.binOp .lss 0 (.global 11) (.global 13) 0)])
    (.cond (.tmp 14)
      .skip
      (.exit 0)))
    (.seq (.block 1
      (.seq (reg [op 17 (.move (.tmp 0)) 1,
        op 18 (.move (.tmp 5)) 1,
        op 19 (.indexAddr 7 (.global 17) (.global 18)) 1,
        op 20 (.load 4 (.global 19)) 1,
        op 21 (.move (.tmp 1)) 1,
        op 22 (.move (.tmp 5)) 1,
        op 23 (.indexAddr 7 (.global 21) (.global 22)) 1,
        op 24 (.load 4 (.global 23)) 1,
        op 25 (.binOp .neq 5 (.global 20) (.global 24) 0)])
      (.cond (.tmp 25)
        (.seq (reg [op 4 (.move (.const (B false)))])
        .ret)
        .skip)))
    (reg [op 15 (.move (.tmp 5)) 1,
      op 16 (.binOp .add 0 (.global 15) (.const (I 1)) 0) 1,
      op 5 (.move (.global 16))]))))))
(.seq (reg [op 4 (.move (.const (B true)))])
.ret)))), [(4, 0)]⟩

/-- spec.DiffText -/
def fn347 : AFun := ⟨1,
(.seq (reg [op 2 (.move (.const (S [])))])
(.seq (.seq (reg [op 3 (.move (.tmp 0)) 1,
  op 4 (call (.func 550) #[(.global 3)]) 1,
  op 5 (.unOp .not 0 (.global 4))])
(.cond (.tmp 5)
  (.seq (reg [op 2 (.move (.const (S [])))])
  .ret)
  .skip))
(.seq (reg [op 6 (.move (.tmp 0)) 1,
  op 7 (call (.func 553) #[(.global 6)]) 1,
  op 2 (.move (.global 7))])
.ret))), [(2, 0)]⟩

/-- impl.InverseDiff -/
def fn89 : AFun := ⟨1,
(.seq (reg [op 2 (.move (.const (sl 0 0 0 0)))])
(.seq (reg [op 5 (.move (.const (sl 0 0 0 3))) 1,
  op 3 (.move (.global 5))])
(.seq (.seq (reg [op 6 (.move (.tmp 0)) 1,
  op 7 (bi .len #[(.global 6)] 1) 1,
  op 8 (.binOp .sub 0 (.global 7) (.const (I 1)) 0) 1,
  op 4 (.move (.global 8))])
(.block 0
  (.loop
    (.seq (.seq (reg [op 9 (.move (.tmp 4)) 1,
      op 10 (.binOp .geq 0 (.global 9) (.const (I 0)) 0)])
    (.cond (.tmp 10)
      .skip
      (.exit 0)))
    (.seq (.block 1
      (reg [op 13 (.move (.tmp 3)) 1,
        op 14 (.move (.tmp 0)) 1,
        op 15 (.move (.tmp 4)) 1,
        op 16 (.indexAddr 7 (.global 14) (.global 15)) 1,
        op 17 (.fieldAddr 0 (.global 16) 0) 1,
        op 18 (.load 0 (.global 17)) 1,
        op 19 (.move (.tmp 0)) 1,
        op 20 (.move (.tmp 4)) 1,
        op 21 (.indexAddr 7 (.global 19) (.global 20)) 1,
        op 22 (.fieldAddr 2 (.global 21) 0) 1,
        op 23 (.load 0 (.global 22)) 1,
        op 24 (.move (.tmp 0)) 1,
        op 25 (.move (.tmp 4)) 1,
        op 26 (.indexAddr 7 (.global 24) (.global 25)) 1,
        op 27 (.fieldAddr 1 (.global 26) 0) 1,
        op 28 (.load 0 (.global 27)) 1,
        op 29 (.build 0 #[(0, (.const (.agg #[(I 0), (I 0), (I 0)]))), (1, (.global 18)), (1001, (.global 23)), (2001, (.global 28))]) 1,
        op 30 (.buildSlice 3 1 #[(0, (.const (.agg #[(I 0), (I 0), (I 0)]))), (3, (.global 29))]) 1,
        op 31 (bi .append #[(.global 13), (.global 30)] 3) 1,
        op 3 (.move (.global 31))]))
    (reg [op 11 (.move (.tmp 4)) 1,
      op 12 (.binOp .sub 0 (.global 11) (.const (I 1)) 0) 1,
      op 4 (.move (.global 12))]))))))
(.seq (reg [op 32 (.move (.tmp 3)) 1,
  op 2 (.move (.global 32))])
.ret)))), [(2, 0)]⟩

/-- spec.InverseDiff -/
def fn382 : AFun := ⟨1,
(.seq (reg [op 2 (.move (.const (sl 0 0 0 0)))])
(.seq (reg [op 5 (.move (.const (sl 0 0 0 3))) 1,
  op 3 (.move (.global 5))])
(.seq (.seq (reg [op 6 (.move (.tmp 0)) 1,
  op 7 (bi .len #[(.global 6)] 1) 1,
  op 8 (.binOp .sub 0 (.global 7) (.const (I 1)) 0) 1,
  op 4 (.move (.global 8))])
(.block 0
  (.loop
    (.seq (.seq (reg [op 9 (.move (.tmp 4)) 1,
      op 10 (.binOp .geq 0 (.global 9) (.const (I 0)) 0)])
    (.cond (.tmp 10)
      .skip
      (.exit 0)))
    (.seq (.block 1
      (reg [op 13 (.move (.tmp 3)) 1,
        op 14 (.move (.tmp 0)) 1,
        op 15 (.move (.tmp 4)) 1,
        op 16 (.indexAddr 7 (.global 14) (.global 15)) 1,
        op 17 (.fieldAddr 0 (.global 16) 0) 1,
        op 18 (.load 0 (.global 17)) 1,
        op 19 (.move (.tmp 0)) 1,
        op 20 (.move (.tmp 4)) 1,
        op 21 (.indexAddr 7 (.global 19) (.global 20)) 1,
        op 22 (.fieldAddr 2 (.global 21) 0) 1,
        op 23 (.load 0 (.global 22)) 1,
        op 24 (.move (.tmp 0)) 1,
        op 25 (.move (.tmp 4)) 1,
        op 26 (.indexAddr 7 (.global 24) (.global 25)) 1,
        op 27 (.fieldAddr 1 (.global 26) 0) 1,
        op 28 (.load 0 (.global 27)) 1,
        op 29 (.build 0 #[(0, (.const (.agg #[(I 0), (I 0), (I 0)]))), (1, (.global 18)), (1001, (.global 23)), (2001, (.global 28))]) 1,
        op 30 (.buildSlice 3 1 #[(0, (.const (.agg #[(I 0), (I 0), (I 0)]))), (3, (.global 29))]) 1,
        op 31 (bi .append #[(.global 13), (.global 30)] 3) 1,
        op 3 (.move (.global 31))]))
    (reg [op 11 (.move (.tmp 4)) 1,
      op 12 (.binOp .sub 0 (.global 11) (.const (I 1)) 0) 1,
      op 4 (.move (.global 12))]))))))
(.seq (reg [op 32 (.move (.tmp 3)) 1,
  op 2 (.move (.global 32))])
.ret)))), [(2, 0)]⟩

/-- impl.DistanceOf -/
def fn81 : AFun := ⟨2,
(.seq (reg [op 2 (.makeChan 3 (.tmp 0)),
  op 3 (.makeChan 3 (.tmp 1)),
  op 4 (.move (.const (I 0))),
  op 5 (.move (.const (I 0)))])
(.seq (.seq (reg [op 9 (.lookup 4 (.tmp 2) (.tmp 2) false) 1,
  op 10 (call (.func 140) #[(.global 9)]) 1,
  op 11 (.unOp .not 0 (.global 10)) 1,
  op 12 (.move (.global 11)) 1,
  op 13 (.lookup 4 (.tmp 3) (.tmp 3) false) 1 (some (49, false)),
  op 14 (call (.func 140) #[(.global 13)]) 1 (some (49, false)),
  op 15 (.unOp .not 0 (.global 14)) 1 (some (49, false)),
  op 16 (.pick (.global 12) (.const (B true)) (.global 15))])
(.cond (.tmp 16)
  (.seq (reg [op 4 (.move (.const (I 0))),
    op 5 (.move (.const (I 1)))])
  .ret)
  .skip))
(.seq (.seq (reg [op 17 (.fieldAddr 0 (.tmp 2) 1) 1,
  op 18 (.lookup 0 (.tmp 2) (.global 17) false) 1,
  op 19 (.fieldAddr 0 (.tmp 3) 1) 1,
  op 20 (.lookup 0 (.tmp 3) (.global 19) false) 1,
  op 21 (.binOp .neq 0 (.global 18) (.global 20) 0) 1,
  op 22 (.move (.global 21)) 1,
  op 23 (.fieldAddr 1 (.tmp 2) 1) 1 (some (89, false)),
  op 24 (.lookup 0 (.tmp 2) (.global 23) false) 1 (some (89, false)),
  op 25 (.fieldAddr 1 (.tmp 3) 1) 1 (some (89, false)),
  op 26 (.lookup 0 (.tmp 3) (.global 25) false) 1 (some (89, false)),
  op 27 (.binOp .neq 0 (.global 24) (.global 26) 0) 1 (some (89, false)),
  op 28 (.pick (.global 22) (.const (B true)) (.global 27))])
(.cond (.tmp 28)
  (.seq (reg [op 4 (.move (.const (I 0))),
    op 5 (.move (.const (I 6)))])
  .ret)
  .skip))
(.seq (reg [op 6 (.move (.const (I 0)))])
(.seq (.seq (reg [op 29 (.fieldAddr 2 (.tmp 2) 1) 1,
  op 30 (.lookup 0 (.tmp 2) (.global 29) false),
  op 31 (bi .len #[(.tmp 30)] 1),
  op 32 (.move (.const (I 0)))])
(.block 0
  (.loop
    (.seq (reg [op 33 (.binOp .lss 0 (.tmp 32) (.tmp 31) 0)])
    (.seq (.cond (.tmp 33)
      .skip
      (.exit 0))
    (.seq (.block 1
      (.seq (reg [op 34 (.move (.tmp 32)) 1,
        op 35 (.indexAddr 3 (.tmp 30) (.tmp 32)) 1,
        op 36 (.load 0 (.global 35)) 1,
        op 7 (.move (.global 34)),
        op 8 (.move (.global 36))])
      (.seq (reg [op 37 (.move (.tmp 8)) 1,
        op 38 (.fieldAddr 2 (.tmp 3) 1) 1,
        op 39 (.lookup 0 (.tmp 3) (.global 38) false) 1,
        op 40 (.move (.tmp 7)) 1,
        op 41 (.indexAddr 3 (.global 39) (.global 40)) 1,
        op 42 (.load 0 (.global 41)) 1,
        op 43 (.binOp .neq 0 (.global 37) (.global 42) 0)])
      (.cond (.tmp 43)
        (reg [op 44 (.move (.tmp 6)) 1,
          op 45 (.binOp .add 0 (.global 44) (.const (I 1)) 0) 1,
          op 6 (.move (.global 45))])
        .skip))))
    (reg [op 46 (.binOp .add 0 (.tmp 32) (.const (I 1)) 0) 1,
      op 32 (.move (.global 46))])))))))
(.seq (reg [op 47 (.move (.tmp 6)) 1,
  op 4 (.move (.global 47)),
  op 5 (.move (.const (I 0)))])
.ret)))))), [(4, 0), (5, 0)]⟩

/-- spec.DrawMergePanels -/
def fn359 : AFun := ⟨1,
(.seq (reg [op 2 (.move (.const (.agg #[(I 0), (I 0), (sl 0 0 0 0)]))),
  op 3 (.move (.const (.agg #[(I 0), (I 0), (sl 0 0 0 0)]))),
  op 4 (.move (.const (.agg #[(I 0), (I 0), (sl 0 0 0 0)])))])
(.seq (reg [op 5 (.move (.tmp 0)) 1,
  op 6 (call (.func 554) #[(.global 5)]) 1,
  op 7 (.extract (.global 6) 0) 1,
  op 8 (.extract (.global 6) 1) 1,
  op 9 (.extract (.global 6) 2) 1,
  op 2 (.insert 3 (.tmp 2) (.tmp 2) (.global 7)),
  op 3 (.insert 3 (.tmp 3) (.tmp 3) (.global 8)),
  op 4 (.insert 3 (.tmp 4) (.tmp 4) (.global 9))])
.ret)), [(2, 1000004), (3, 1000004), (4, 1000004)]⟩

/-- impl.MergePanels -/
def fn98 : AFun := ⟨3,
(.seq (reg [op 3 (.makeChan 3 (.tmp 0)),
  op 4 (.makeChan 3 (.tmp 1)),
  op 5 (.makeChan 3 (.tmp 2)),
  op 6 (.move (.const (.agg #[(I 0), (I 0), (sl 0 0 0 0)]))),
  op 7 (.move (.const (I 0)))])
(.seq (reg [op 14 (.lookup 4 (.tmp 3) (.tmp 3) false) 1,
  op 15 (.lookup 4 (.tmp 4) (.tmp 4) false) 1,
  op 16 (.lookup 4 (.tmp 5) (.tmp 5) false) 1,
  op 17 (call (.func 65) #[(.global 14), (.global 15), (.global 16)]) 1,
  op 13 (.move (.global 17)) 1,
  op 18 (.extract (.global 13) 0) 1,
  op 19 (.extract (.global 13) 1) 1,
  op 8 (.move (.global 18)),
  op 9 (.move (.global 19))])
(.seq (.seq (reg [op 20 (.move (.tmp 9)) 1,
  op 21 (.binOp .neq 0 (.global 20) (.const (I 0)) 0)])
(.cond (.tmp 21)
  (.seq (reg [op 22 (.build 0 #[(0, (.const (.agg #[(I 0), (I 0), (sl 0 0 0 0)])))]) 1,
    op 23 (.move (.tmp 9)) 1,
    op 6 (.insert 3 (.tmp 6) (.tmp 6) (.global 22)),
    op 7 (.move (.global 23))])
  .ret)
  .skip))
(.seq (.seq (reg [op 24 (.move (.tmp 8)) 1,
  op 25 (bi .len #[(.global 24)] 1) 1,
  op 26 (.binOp .gtr 0 (.global 25) (.const (I 0)) 0)])
(.cond (.tmp 26)
  (.seq (reg [op 27 (.build 0 #[(0, (.const (.agg #[(I 0), (I 0), (sl 0 0 0 0)])))]) 1,
    op 6 (.insert 3 (.tmp 6) (.tmp 6) (.global 27)),
    op 7 (.move (.const (I 9)))])
  .ret)
  .skip))
(.seq (reg [op 28 (.lookup 4 (.tmp 4) (.tmp 4) false) 1,
  op 29 (call (.func 150) #[(.global 28)]) 1,
  op 10 (.move (.const (.agg #[(I 0), (I 0), (sl 0 0 0 0)]))),
  op 10 (.insert 3 (.tmp 10) (.tmp 10) (.global 29))])
(.seq (.seq (reg [op 30 (.fieldAddr 2 (.tmp 5) 1) 1,
  op 31 (.lookup 0 (.tmp 5) (.global 30) false),
  op 32 (bi .len #[(.tmp 31)] 1),
  op 33 (.move (.const (I 0)))])
(.block 0
  (.loop
    (.seq (reg [op 34 (.binOp .lss 0 (.tmp 33) (.tmp 32) 0)])
    (.seq (.cond (.tmp 34)
      .skip
      (.exit 0))
    (.seq (.block 1
      (.seq (reg [op 35 (.move (.tmp 33)) 1,
        op 36 (.indexAddr 3 (.tmp 31) (.tmp 33)) 1,
        op 37 (.load 0 (.global 36)) 1,
        op 11 (.move (.global 35)),
        op 12 (.move (.global 37))])
      (.seq (reg [op 38 (.move (.tmp 12)) 1,
        op 39 (.fieldAddr 2 (.tmp 3) 1) 1,
        op 40 (.lookup 0 (.tmp 3) (.global 39) false) 1,
        op 41 (.move (.tmp 11)) 1,
        op 42 (.indexAddr 3 (.global 40) (.global 41)) 1,
        op 43 (.load 0 (.global 42)) 1,
        op 44 (.binOp .neq 0 (.global 38) (.global 43) 0)])
      (.cond (.tmp 44)
        (reg [op 45 (.fieldAddr 2 (.tmp 10) 1) 1,
          op 46 (.lookup 0 (.tmp 10) (.global 45) false) 1,
          op 47 (.move (.tmp 11)) 1,
          op 48 (.move (.tmp 12)) 1,
          op 49 (.indexAddr 3 (.global 46) (.global 47)) 1,
          opn (.store 1 (.global 49) (.global 48))])
        .skip))))
    (reg [op 50 (.binOp .add 0 (.tmp 33) (.const (I 1)) 0) 1,
      op 33 (.move (.global 50))])))))))
(.seq (reg [op 51 (.lookup 4 (.tmp 10) (.tmp 10) false) 1,
  op 6 (.insert 3 (.tmp 6) (.tmp 6) (.global 51)),
  op 7 (.move (.const (I 0)))])
.ret))))))), [(6, 1000004), (7, 0)]⟩

/-- spec.MergePanels -/
def fn391 : AFun := ⟨3,
(.seq (reg [op 3 (.box 3 (.tmp 0)),
  op 4 (.box 3 (.tmp 1)),
  op 5 (.box 3 (.tmp 2)),
  op 6 (.move (.const (.agg #[(I 0), (I 0), (sl 0 0 0 0)]))),
  op 7 (.move (.const (I 0)))])
(.seq (reg [op 11 (.buildSlice 1 3 #[(0, (.const (.agg #[(.pointer none), (.pointer none), (.pointer none)]))), (1, (.tmp 3)), (1001, (.tmp 4)), (2001, (.tmp 5))]) 1,
  op 12 (call (.func 552) #[(.global 11)]) 1,
  op 8 (.move (.global 12))])
(.seq (.seq (reg [op 13 (.move (.tmp 8)) 1,
  op 14 (.binOp .eql 0 (.global 13) (.const (I 0)) 0) 1,
  op 15 (.move (.global 14)) 1,
  op 16 (call (.func 548) #[(.tmp 3), (.tmp 4), (.tmp 5)]) 1 (some (61, true)),
  op 17 (bi .len #[(.global 16)] 1) 1 (some (61, true)),
  op 18 (.binOp .gtr 0 (.global 17) (.const (I 0)) 0) 1 (some (61, true)),
  op 19 (.pick (.global 15) (.global 18) (.const (B false)))])
(.cond (.tmp 19)
  (reg [op 8 (.move (.const (I 9)))])
  .skip))
(.seq (.seq (reg [op 20 (.move (.tmp 8)) 1,
  op 21 (.binOp .neq 0 (.global 20) (.const (I 0)) 0)])
(.cond (.tmp 21)
  (.seq (reg [op 22 (.build 0 #[(0, (.const (.agg #[(I 0), (I 0), (sl 0 0 0 0)])))]) 1,
    op 23 (.move (.tmp 8)) 1,
    op 6 (.insert 3 (.tmp 6) (.tmp 6) (.global 22)),
    op 7 (.move (.global 23))])
  .ret)
  .skip))
(.seq (reg [op 24 (call (.func 453) #[(.tmp 4)]) 1,
  op 9 (.move (.const (.agg #[(I 0), (I 0), (sl 0 0 0 0)]))),
  op 9 (.insert 3 (.tmp 9) (.tmp 9) (.global 24))])
(.seq (.seq (reg [op 10 (.move (.const (I 0)))])
(.block 0
  (.loop
    (.seq (.seq (reg [op 25 (.move (.tmp 10)) 1,
      op 26 (.fieldAddr 2 (.tmp 3) 0) 1,
      op 27 (.load 0 (.global 26)) 1,
      op 28 (bi .len #[(.global 27)] 1) 1,
      op 29 (.binOp .lss 0 (.global 25) (.global 28) 0)])
    (.cond (.tmp 29)
      .skip
      (.exit 0)))
    (.seq (.block 1
      (.seq (reg [op 32 (.fieldAddr 2 (.tmp 5) 0) 1,
        op 33 (.load 0 (.global 32)) 1,
        op 34 (.move (.tmp 10)) 1,
        op 35 (.indexAddr 3 (.global 33) (.global 34)) 1,
        op 36 (.load 0 (.global 35)) 1,
        op 37 (.fieldAddr 2 (.tmp 3) 0) 1,
        op 38 (.load 0 (.global 37)) 1,
        op 39 (.move (.tmp 10)) 1,
        op 40 (.indexAddr 3 (.global 38) (.global 39)) 1,
        op 41 (.load 0 (.global 40)) 1,
        op 42 (.binOp .neq 0 (.global 36) (.global 41) 0)])
      (.cond (.tmp 42)
        (reg [op 43 (.fieldAddr 2 (.tmp 9) 1) 1,
          op 44 (.lookup 0 (.tmp 9) (.global 43) false) 1,
          op 45 (.move (.tmp 10)) 1,
          op 46 (.fieldAddr 2 (.tmp 5) 0) 1,
          op 47 (.load 0 (.global 46)) 1,
          op 48 (.move (.tmp 10)) 1,
          op 49 (.indexAddr 3 (.global 47) (.global 48)) 1,
          op 50 (.load 0 (.global 49)) 1,
          op 51 (.indexAddr 3 (.global 44) (.global 45)) 1,
          opn (.store 1 (.global 51) (.global 50))])
        .skip)))
    (reg [op 30 (.move (.tmp 10)) 1,
      op 31 (.binOp .add 0 (.global 30) (.const (I 1)) 0) 1,
      op 10 (.move (.global 31))]))))))
(.seq (reg [op 52 (.lookup 4 (.tmp 9) (.tmp 9) false) 1,
  op 6 (.insert 3 (.tmp 6) (.tmp 6) (.global 52)),
  op 7 (.move (.const (I 0)))])
.ret))))))), [(6, 1000004), (7, 0)]⟩

/-- impl.ClashesOf -/
def fn65 : AFun := ⟨3,
(.seq (reg [op 3 (.makeChan 3 (.tmp 0)),
  op 4 (.makeChan 3 (.tmp 1)),
  op 5 (.makeChan 3 (.tmp 2)),
  op 6 (.move (.const (sl 0 0 0 0))),
  op 7 (.move (.const (I 0)))])
(.seq (.seq (reg [op 13 (.lookup 4 (.tmp 3) (.tmp 3) false) 1,
  op 14 (call (.func 140) #[(.global 13)]) 1,
  op 15 (.unOp .not 0 (.global 14)) 1,
  op 16 (.move (.global 15)) 1,
  op 17 (.lookup 4 (.tmp 4) (.tmp 4) false) 1 (some (65, false)),
  op 18 (call (.func 140) #[(.global 17)]) 1 (some (65, false)),
  op 19 (.unOp .not 0 (.global 18)) 1 (some (65, false)),
  op 20 (.pick (.global 16) (.const (B true)) (.global 19)) 1,
  op 21 (.move (.global 20)) 1,
  op 22 (.lookup 4 (.tmp 5) (.tmp 5) false) 1 (some (85, false)),
  op 23 (call (.func 140) #[(.global 22)]) 1 (some (85, false)),
  op 24 (.unOp .not 0 (.global 23)) 1 (some (85, false)),
  op 25 (.pick (.global 21) (.const (B true)) (.global 24))])
(.cond (.tmp 25)
  (.seq (reg [op 6 (.move (.const (sl 0 0 0 0))),
    op 7 (.move (.const (I 1)))])
  .ret)
  .skip))
(.seq (.seq (reg [op 26 (.lookup 4 (.tmp 3) (.tmp 3) false) 1,
  op 27 (.lookup 4 (.tmp 4) (.tmp 4) false) 1,
  op 28 (call (.func 186) #[(.global 26), (.global 27)]) 1,
  op 29 (.unOp .not 0 (.global 28)) 1,
  op 30 (.move (.global 29)) 1,
  op 31 (.lookup 4 (.tmp 3) (.tmp 3) false) 1 (some (121, false)),
  op 32 (.lookup 4 (.tmp 5) (.tmp 5) false) 1 (some (121, false)),
  op 33 (call (.func 186) #[(.global 31), (.global 32)]) 1 (some (121, false)),
  op 34 (.unOp .not 0 (.global 33)) 1 (some (121, false)),
  op 35 (.pick (.global 30) (.const (B true)) (.global 34))])
(.cond (.tmp 35)
  (.seq (reg [op 6 (.move (.const (sl 0 0 0 0))),
    op 7 (.move (.const (I 6)))])
  .ret)
  .skip))
(.seq (reg [op 36 (.move (.const (sl 0 0 0 1))) 1,
  op 8 (.move (.global 36))])
(.seq (.seq (reg [op 37 (.fieldAddr 2 (.tmp 3) 1) 1,
  op 38 (.lookup 0 (.tmp 3) (.global 37) false),
  op 39 (bi .len #[(.tmp 38)] 1),
  op 40 (.move (.const (I 0)))])
(.block 0
  (.loop
    (.seq (reg [op 41 (.binOp .lss 0 (.tmp 40) (.tmp 39) 0)])
    (.seq (.cond (.tmp 41)
      .skip
      (.exit 0))
    (.seq (.block 1
      (.seq (reg [op 42 (.move (.tmp 40)) 1,
        op 43 (.indexAddr 3 (.tmp 38) (.tmp 40)) 1,
        op 44 (.load 0 (.global 43)) 1,
        op 9 (.move (.global 42)),
        op 10 (.move (.global 44))])
      (.seq (reg [op 45 (.fieldAddr 2 (.tmp 4) 1) 1,
        op 46 (.lookup 0 (.tmp 4) (.global 45) false) 1,
        op 47 (.move (.tmp 9)) 1,
        op 48 (.indexAddr 3 (.global 46) (.global 47)) 1,
        op 49 (.load 0 (.global 48)) 1,
        op 50 (.fieldAddr 2 (.tmp 5) 1) 1,
        op 51 (.lookup 0 (.tmp 5) (.global 50) false) 1,
        op 52 (.move (.tmp 9)) 1,
        op 53 (.indexAddr 3 (.global 51) (.global 52)) 1,
        op 54 (.load 0 (.global 53)) 1,
        op 11 (.move (.global 49)),
        op 12 (.move (.global 54))])
      (.seq (reg [op 55 (.move (.tmp 11)) 1,
        op 56 (.move (.tmp 10)) 1,
        op 57 (.binOp .neq 0 (.global 55) (.global 56) 0) 1,
        op 58 (.move (.global 57)) 1,
        op 59 (.move (.tmp 12)) 1 (some (233, true)),
        op 60 (.move (.tmp 10)) 1 (some (233, true)),
        op 61 (.binOp .neq 0 (.global 59) (.global 60) 0) 1 (some (233, true)),
        op 62 (.pick (.global 58) (.global 61) (.const (B false))) 1,
        op 63 (.move (.global 62)) 1,
        op 64 (.move (.tmp 11)) 1 (some (253, true)),
        op 65 (.move (.tmp 12)) 1 (some (253, true)),
        op 66 (.binOp .neq 0 (.global 64) (.global 65) 0) 1 (some (253, true)),
        op 67 (.pick (.global 63) (.global 66) (.const (B false)))])
      (.cond (.tmp 67)
        (reg [op 68 (.move (.tmp 8)) 1,
          op 69 (.move (.tmp 9)) 1,
          op 70 (.buildSlice 1 1 #[(0, (.const (.agg #[(I 0)]))), (1, (.global 69))]) 1,
          op 71 (bi .append #[(.global 68), (.global 70)] 1) 1,
          op 8 (.move (.global 71))])
        .skip)))))
    (reg [op 72 (.binOp .add 0 (.tmp 40) (.const (I 1)) 0) 1,
      op 40 (.move (.global 72))])))))))
(.seq (reg [op 73 (.move (.tmp 8)) 1,
  op 6 (.move (.global 73)),
  op 7 (.move (.const (I 0)))])
.ret)))))), [(6, 0), (7, 0)]⟩

/-- spec.ClashesOf -/
def fn334 : AFun := ⟨3,
(.seq (reg [op 3 (.box 3 (.tmp 0)),
  op 4 (.box 3 (.tmp 1)),
  op 5 (.box 3 (.tmp 2)),
  op 6 (.move (.const (sl 0 0 0 0))),
  op 7 (.move (.const (I 0)))])
(.seq (reg [op 9 (.buildSlice 1 3 #[(0, (.const (.agg #[(.pointer none), (.pointer none), (.pointer none)]))), (1, (.tmp 3)), (1001, (.tmp 4)), (2001, (.tmp 5))]) 1,
  op 10 (call (.func 552) #[(.global 9)]) 1,
  op 8 (.move (.global 10))])
(.seq (.seq (reg [op 11 (.move (.tmp 8)) 1,
  op 12 (.binOp .neq 0 (.global 11) (.const (I 0)) 0)])
(.cond (.tmp 12)
  (.seq (reg [op 13 (.move (.tmp 8)) 1,
    op 6 (.move (.const (sl 0 0 0 0))),
    op 7 (.move (.global 13))])
  .ret)
  .skip))
(.seq (reg [op 14 (call (.func 548) #[(.tmp 3), (.tmp 4), (.tmp 5)]) 1,
  op 6 (.move (.global 14)),
  op 7 (.move (.const (I 0)))])
.ret)))), [(6, 0), (7, 0)]⟩

/-- spec.DrawPastePart -/
def fn365 : AFun := ⟨1,
(.seq (reg [op 2 (.move (.const (.agg #[(I 0), (I 0), (sl 0 0 0 0)]))),
  op 3 (.move (.const (I 0))),
  op 4 (.move (.const (I 0))),
  op 5 (.move (.const (.agg #[(I 0), (I 0), (sl 0 0 0 0)])))])
(.seq (reg [op 10 (.move (.tmp 0)) 1,
  op 11 (call (.func 431) #[(.global 10)]) 1,
  op 6 (.move (.global 11))])
(.seq (reg [op 12 (.move (.tmp 6)) 1,
  op 13 (call (.func 443) #[(.global 12)]) 1,
  op 7 (.move (.const (.agg #[(I 0), (I 0), (sl 0 0 0 0)]))),
  op 7 (.insert 3 (.tmp 7) (.tmp 7) (.global 13))])
(.seq (reg [op 14 (.move (.tmp 6)) 1,
  op 15 (call (.func 7) #[(.global 14), (.const (I 3))]) 1,
  op 16 (.move (.tmp 6)) 1,
  op 17 (call (.func 7) #[(.global 16), (.const (I 16))]) 1,
  op 18 (.binOp .quo 0 (.global 17) (.const (I 15)) 0) 1,
  op 19 (.binOp .sub 0 (.global 15) (.global 18) 0) 1,
  op 8 (.move (.global 19))])
(.seq (reg [op 20 (.move (.tmp 6)) 1,
  op 21 (call (.func 7) #[(.global 20), (.const (I 3))]) 1,
  op 9 (.move (.global 21))])
(.seq (.seq (reg [op 22 (.move (.tmp 6)) 1,
  op 23 (call (.func 6) #[(.global 22), (.const (I 12))])])
(.cond (.tmp 23)
  (.seq (reg [op 24 (.lookup 4 (.tmp 7) (.tmp 7) false) 1,
    op 25 (.move (.tmp 8)) 1,
    op 26 (.move (.tmp 9)) 1,
    op 27 (.move (.tmp 6)) 1,
    op 28 (call (.func 443) #[(.global 27)]) 1,
    op 2 (.insert 3 (.tmp 2) (.tmp 2) (.global 24)),
    op 3 (.move (.global 25)),
    op 4 (.move (.global 26)),
    op 5 (.insert 3 (.tmp 5) (.tmp 5) (.global 28))])
  .ret)
  .skip))
(.seq (reg [op 29 (.lookup 4 (.tmp 7) (.tmp 7) false) 1,
  op 30 (.move (.tmp 8)) 1,
  op 31 (.move (.tmp 9)) 1,
  op 32 (.move (.tmp 6)) 1,
  op 33 (call (.func 445) #[(.global 32), (.const (I 3))]) 1,
  op 2 (.insert 3 (.tmp 2) (.tmp 2) (.global 29)),
  op 3 (.move (.global 30)),
  op 4 (.move (.global 31)),
  op 5 (.insert 3 (.tmp 5) (.tmp 5) (.global 33))])
.ret))))))), [(2, 1000004), (3, 0), (4, 0), (5, 1000004)]⟩

/-- impl.PastePart -/
def fn114 : AFun := ⟨4,
(.seq (reg [op 4 (.makeChan 3 (.tmp 0)),
  op 7 (.makeChan 3 (.tmp 3)),
  op 8 (.move (.const (.agg #[(I 0), (I 0), (sl 0 0 0 0)]))),
  op 9 (.move (.const (I 0)))])
(.seq (.seq (reg [op 11 (.lookup 4 (.tmp 4) (.tmp 4) false) 1,
  op 12 (call (.func 140) #[(.global 11)]) 1,
  op 13 (.unOp .not 0 (.global 12)) 1,
  op 14 (.move (.global 13)) 1,
  op 15 (.lookup 4 (.tmp 7) (.tmp 7) false) 1 (some (57, false)),
  op 16 (call (.func 140) #[(.global 15)]) 1 (some (57, false)),
  op 17 (.unOp .not 0 (.global 16)) 1 (some (57, false)),
  op 18 (.pick (.global 14) (.const (B true)) (.global 17))])
(.cond (.tmp 18)
  (.seq (reg [op 19 (.build 0 #[(0, (.const (.agg #[(I 0), (I 0), (sl 0 0 0 0)])))]) 1,
    op 8 (.insert 3 (.tmp 8) (.tmp 8) (.global 19)),
    op 9 (.move (.const (I 1)))])
  .ret)
  .skip))
(.seq (.seq (reg [op 20 (.lookup 4 (.tmp 4) (.tmp 4) false) 1,
  op 21 (.move (.tmp 1)) 1,
  op 22 (.move (.tmp 2)) 1,
  op 23 (.fieldAddr 0 (.tmp 7) 1) 1,
  op 24 (.lookup 0 (.tmp 7) (.global 23) false) 1,
  op 25 (.fieldAddr 1 (.tmp 7) 1) 1,
  op 26 (.lookup 0 (.tmp 7) (.global 25) false) 1,
  op 27 (call (.func 33) #[(.global 20), (.global 21), (.global 22), (.global 24), (.global 26)]) 1,
  op 28 (.unOp .not 0 (.global 27))])
(.cond (.tmp 28)
  (.seq (reg [op 29 (.build 0 #[(0, (.const (.agg #[(I 0), (I 0), (sl 0 0 0 0)])))]) 1,
    op 8 (.insert 3 (.tmp 8) (.tmp 8) (.global 29)),
    op 9 (.move (.const (I 2)))])
  .ret)
  .skip))
(.seq (reg [op 30 (.lookup 4 (.tmp 4) (.tmp 4) false) 1,
  op 31 (call (.func 150) #[(.global 30)]) 1,
  op 10 (.move (.const (.agg #[(I 0), (I 0), (sl 0 0 0 0)]))),
  op 10 (.insert 3 (.tmp 10) (.tmp 10) (.global 31))])
(.seq (reg [op 32 (.lookup 4 (.tmp 10) (.tmp 10) false) 1,
  op 33 (.move (.tmp 1)) 1,
  op 34 (.move (.tmp 2)) 1,
  op 35 (.lookup 4 (.tmp 7) (.tmp 7) false) 1,
  op 36 (call (.func 46) #[(.global 32), (.global 33), (.global 34), (.global 35)]) 1])
(.seq (reg [op 37 (.lookup 4 (.tmp 10) (.tmp 10) false) 1,
  op 8 (.insert 3 (.tmp 8) (.tmp 8) (.global 37)),
  op 9 (.move (.const (I 0)))])
.ret)))))), [(8, 1000004), (9, 0)]⟩

/-- spec.PastePart -/
def fn406 : AFun := ⟨4,
(.seq (reg [op 4 (.box 3 (.tmp 0)),
  op 7 (.box 3 (.tmp 3)),
  op 8 (.move (.const (.agg #[(I 0), (I 0), (sl 0 0 0 0)]))),
  op 9 (.move (.const (I 0)))])
(.seq (.seq (reg [op 11 (call (.func 452) #[(.tmp 4)]) 1,
  op 12 (.unOp .not 0 (.global 11)) 1,
  op 13 (.move (.global 12)) 1,
  op 14 (call (.func 452) #[(.tmp 7)]) 1 (some (53, false)),
  op 15 (.unOp .not 0 (.global 14)) 1 (some (53, false)),
  op 16 (.pick (.global 13) (.const (B true)) (.global 15))])
(.cond (.tmp 16)
  (.seq (reg [op 17 (.build 0 #[(0, (.const (.agg #[(I 0), (I 0), (sl 0 0 0 0)])))]) 1,
    op 8 (.insert 3 (.tmp 8) (.tmp 8) (.global 17)),
    op 9 (.move (.const (I 1)))])
  .ret)
  .skip))
(.seq (.seq (reg [op 18 (.move (.tmp 1)) 1,
  op 19 (.move (.tmp 2)) 1,
  op 20 (.fieldAddr 0 (.tmp 7) 0) 1,
  op 21 (.load 0 (.global 20)) 1,
  op 22 (.fieldAddr 1 (.tmp 7) 0) 1,
  op 23 (.load 0 (.global 22)) 1,
  op 24 (call (.func 549) #[(.tmp 4), (.global 18), (.global 19), (.global 21), (.global 23)]) 1,
  op 25 (.unOp .not 0 (.global 24))])
(.cond (.tmp 25)
  (.seq (reg [op 26 (.build 0 #[(0, (.const (.agg #[(I 0), (I 0), (sl 0 0 0 0)])))]) 1,
    op 8 (.insert 3 (.tmp 8) (.tmp 8) (.global 26)),
    op 9 (.move (.const (I 2)))])
  .ret)
  .skip))
(.seq (reg [op 27 (call (.func 453) #[(.tmp 4)]) 1,
  op 10 (.box 3 (.const (.agg #[(I 0), (I 0), (sl 0 0 0 0)]))),
  opn (.store 3 (.tmp 10) (.global 27))])
(.seq (reg [op 28 (.move (.tmp 1)) 1,
  op 29 (.move (.tmp 2)) 1,
  op 30 (call (.func 551) #[(.tmp 10), (.global 28), (.global 29), (.tmp 7)]) 1])
(.seq (reg [op 31 (.load 4 (.tmp 10)) 1,
  op 8 (.insert 3 (.tmp 8) (.tmp 8) (.global 31)),
  op 9 (.move (.const (I 0)))])
.ret)))))), [(8, 1000004), (9, 0)]⟩

/-- spec.DrawPartOf -/
def fn364 : AFun := ⟨1,
(.seq (reg [op 2 (.move (.const (.agg #[(I 0), (I 0), (sl 0 0 0 0)]))),
  op 3 (.move (.const (I 0))),
  op 4 (.move (.const (I 0))),
  op 5 (.move (.const (I 0))),
  op 6 (.move (.const (I 0)))])
(.seq (reg [op 12 (.move (.tmp 0)) 1,
  op 13 (call (.func 431) #[(.global 12)]) 1,
  op 7 (.move (.global 13))])
(.seq (reg [op 14 (.move (.tmp 7)) 1,
  op 15 (call (.func 443) #[(.global 14)]) 1,
  op 8 (.move (.const (.agg #[(I 0), (I 0), (sl 0 0 0 0)]))),
  op 8 (.insert 3 (.tmp 8) (.tmp 8) (.global 15))])
(.seq (reg [op 16 (.move (.tmp 7)) 1,
  op 17 (call (.func 7) #[(.global 16), (.const (I 3))]) 1,
  op 18 (.move (.tmp 7)) 1,
  op 19 (call (.func 7) #[(.global 18), (.const (I 16))]) 1,
  op 20 (.binOp .quo 0 (.global 19) (.const (I 15)) 0) 1,
  op 21 (.binOp .sub 0 (.global 17) (.global 20) 0) 1,
  op 9 (.move (.global 21))])
(.seq (reg [op 22 (.move (.tmp 7)) 1,
  op 23 (call (.func 7) #[(.global 22), (.const (I 3))]) 1,
  op 24 (.move (.tmp 7)) 1,
  op 25 (call (.func 7) #[(.global 24), (.const (I 16))]) 1,
  op 26 (.binOp .quo 0 (.global 25) (.const (I 15)) 0) 1,
  op 27 (.binOp .sub 0 (.global 23) (.global 26) 0) 1,
  op 10 (.move (.global 27))])
(.seq (reg [op 28 (.move (.tmp 7)) 1,
  op 29 (call (.func 7) #[(.global 28), (.const (I 3))]) 1,
  op 30 (.binOp .add 0 (.const (I 1)) (.global 29) 0) 1,
  op 31 (.move (.tmp 7)) 1,
  op 32 (call (.func 7) #[(.global 31), (.const (I 16))]) 1,
  op 33 (.binOp .quo 0 (.global 32) (.const (I 15)) 0) 1,
  op 34 (.binOp .sub 0 (.global 30) (.global 33) 0) 1,
  op 11 (.move (.global 34))])
(.seq (reg [op 35 (.lookup 4 (.tmp 8) (.tmp 8) false) 1,
  op 36 (.move (.tmp 9)) 1,
  op 37 (.move (.tmp 10)) 1,
  op 38 (.move (.tmp 11)) 1,
  op 39 (.move (.tmp 7)) 1,
  op 40 (call (.func 7) #[(.global 39), (.const (I 3))]) 1,
  op 41 (.binOp .add 0 (.const (I 1)) (.global 40) 0) 1,
  op 2 (.insert 3 (.tmp 2) (.tmp 2) (.global 35)),
  op 3 (.move (.global 36)),
  op 4 (.move (.global 37)),
  op 5 (.move (.global 38)),
  op 6 (.move (.global 41))])
.ret))))))), [(2, 1000004), (3, 0), (4, 0), (5, 0), (6, 0)]⟩

/-- impl.PartOf -/
def fn111 : AFun := ⟨5,
(.seq (reg [op 5 (.makeChan 3 (.tmp 0)),
  op 10 (.move (.const (.agg #[(I 0), (I 0), (sl 0 0 0 0)]))),
  op 11 (.move (.const (I 0)))])
(.seq (.seq (reg [op 15 (.lookup 4 (.tmp 5) (.tmp 5) false) 1,
  op 16 (call (.func 140) #[(.global 15)]) 1,
  op 17 (.unOp .not 0 (.global 16))])
(.cond (.tmp 17)
  (.seq (reg [op 18 (.build 0 #[(0, (.const (.agg #[(I 0), (I 0), (sl 0 0 0 0)])))]) 1,
    op 10 (.insert 3 (.tmp 10) (.tmp 10) (.global 18)),
    op 11 (.move (.const (I 1)))])
  .ret)
  .skip))
(.seq (.seq (reg [op 19 (.lookup 4 (.tmp 5) (.tmp 5) false) 1,
  op 20 (.move (.tmp 1)) 1,
  op 21 (.move (.tmp 2)) 1,
  op 22 (.move (.tmp 3)) 1,
  op 23 (.move (.tmp 4)) 1,
  op 24 (call (.func 33) #[(.global 19), (.global 20), (.global 21), (.global 22), (.global 23)]) 1,
  op 25 (.unOp .not 0 (.global 24))])
(.cond (.tmp 25)
  (.seq (reg [op 26 (.build 0 #[(0, (.const (.agg #[(I 0), (I 0), (sl 0 0 0 0)])))]) 1,
    op 10 (.insert 3 (.tmp 10) (.tmp 10) (.global 26)),
    op 11 (.move (.const (I 2)))])
  .ret)
  .skip))
(.seq (reg [op 27 (.move (.tmp 3)) 1,
  op 28 (.move (.tmp 4)) 1,
  op 29 (call (.func 177) #[(.global 27), (.global 28)]) 1,
  op 12 (.move (.const (.agg #[(I 0), (I 0), (sl 0 0 0 0)]))),
  op 12 (.insert 3 (.tmp 12) (.tmp 12) (.global 29))])
(.seq (.seq (reg [op 30 (.lookup 4 (.tmp 12) (.tmp 12) false) 1,
  op 31 (call (.func 49) #[(.global 30)]),
  op 32 (bi .len #[(.tmp 31)] 1),
  op 33 (.move (.const (I 0)))])
(.block 0
  (.loop
    (.seq (reg [op 34 (.binOp .lss 0 (.tmp 33) (.tmp 32) 0)])
    (.seq (.cond (.tmp 34)
      .skip
      (.exit 0))
    (.seq (.block 1
      (.seq (reg [op 35 (.move (.tmp 33)) 1,
        op 36 (.indexAddr 5 (.tmp 31) (.tmp 33)) 1,
        op 37 (.load 3 (.global 36)) 1,
        op 14 (.move (.const (.agg #[(I 0), (I 0)]))),
        op 13 (.move (.global 35)),
        op 14 (.insert 2 (.tmp 14) (.tmp 14) (.global 37))])
      (reg [op 38 (.fieldAddr 2 (.tmp 12) 1) 1,
        op 39 (.lookup 0 (.tmp 12) (.global 38) false) 1,
        op 40 (.move (.tmp 13)) 1,
        op 41 (.fieldAddr 2 (.tmp 5) 1) 1,
        op 42 (.lookup 0 (.tmp 5) (.global 41) false) 1,
        op 43 (.lookup 4 (.tmp 5) (.tmp 5) false) 1,
        op 44 (.lookup 3 (.tmp 14) (.tmp 14) false) 1,
        op 45 (.move (.tmp 1)) 1,
        op 46 (.move (.tmp 2)) 1,
        op 47 (call (.func 188) #[(.global 44), (.global 45), (.global 46)]) 1,
        op 48 (call (.func 40) #[(.global 43), (.global 47)]) 1,
        op 49 (.indexAddr 3 (.global 42) (.global 48)) 1,
        op 50 (.load 0 (.global 49)) 1,
        op 51 (.indexAddr 3 (.global 39) (.global 40)) 1,
        opn (.store 1 (.global 51) (.global 50))])))
    (reg [op 52 (.binOp .add 0 (.tmp 33) (.const (I 1)) 0) 1,
      op 33 (.move (.global 52))])))))))
(.seq (reg [op 53 (.lookup 4 (.tmp 12) (.tmp 12) false) 1,
  op 10 (.insert 3 (.tmp 10) (.tmp 10) (.global 53)),
  op 11 (.move (.const (I 0)))])
.ret)))))), [(10, 1000004), (11, 0)]⟩

/-- spec.PartOf -/
def fn403 : AFun := ⟨5,
(.seq (reg [op 5 (.box 3 (.tmp 0)),
  op 10 (.move (.const (.agg #[(I 0), (I 0), (sl 0 0 0 0)]))),
  op 11 (.move (.const (I 0)))])
(.seq (.seq (reg [op 15 (call (.func 452) #[(.tmp 5)]) 1,
  op 16 (.unOp .not 0 (.global 15))])
(.cond (.tmp 16)
  (.seq (reg [op 17 (.build 0 #[(0, (.const (.agg #[(I 0), (I 0), (sl 0 0 0 0)])))]) 1,
    op 10 (.insert 3 (.tmp 10) (.tmp 10) (.global 17)),
    op 11 (.move (.const (I 1)))])
  .ret)
  .skip))
(.seq (.seq (reg [op 18 (.move (.tmp 1)) 1,
  op 19 (.move (.tmp 2)) 1,
  op 20 (.move (.tmp 3)) 1,
  op 21 (.move (.tmp 4)) 1,
  op 22 (call (.func 549) #[(.tmp 5), (.global 18), (.global 19), (.global 20), (.global 21)]) 1,
  op 23 (.unOp .not 0 (.global 22))])
(.cond (.tmp 23)
  (.seq (reg [op 24 (.build 0 #[(0, (.const (.agg #[(I 0), (I 0), (sl 0 0 0 0)])))]) 1,
    op 10 (.insert 3 (.tmp 10) (.tmp 10) (.global 24)),
    op 11 (.move (.const (I 2)))])
  .ret)
  .skip))
(.seq (reg [op 25 (.move (.tmp 3)) 1,
  op 26 (.move (.tmp 4)) 1,
  op 27 (call (.func 450) #[(.global 25), (.global 26)]) 1,
  op 12 (.box 3 (.const (.agg #[(I 0), (I 0), (sl 0 0 0 0)]))),
  opn (.store 3 (.tmp 12) (.global 27))])
(.seq (.seq (reg [op 13 (.move (.const (I 0)))])
(.block 0
  (.loop
    (.seq (.seq (reg [op 28 (.move (.tmp 13)) 1,
      op 29 (.fieldAddr 2 (.tmp 12) 0) 1,
      op 30 (.load 0 (.global 29)) 1,
      op 31 (bi .len #[(.global 30)] 1) 1,
      op 32 (.binOp .lss 0 (.global 28) (.global 31) 0)])
    (.cond (.tmp 32)
      .skip
      (.exit 0)))
    (.seq (.block 1
      (.seq (reg [op 35 (.move (.tmp 13)) 1,
        op 36 (call (.func 454) #[(.tmp 12), (.global 35)]) 1,
        op 14 (.move (.const (.agg #[(I 0), (I 0)]))),
        op 14 (.insert 2 (.tmp 14) (.tmp 14) (.global 36))])
      (reg [op 37 (.fieldAddr 2 (.tmp 12) 0) 1,
        op 38 (.load 0 (.global 37)) 1,
        op 39 (.move (.tmp 13)) 1,
        op 40 (.fieldAddr 2 (.tmp 5) 0) 1,
        op 41 (.load 0 (.global 40)) 1,
        op 42 (.fieldAddr 0 (.tmp 14) 1) 1,
        op 43 (.lookup 0 (.tmp 14) (.global 42) false) 1,
        op 44 (.move (.tmp 1)) 1,
        op 45 (.binOp .mul 0 (.const (I 2)) (.global 44) 0) 1,
        op 46 (.binOp .add 0 (.global 43) (.global 45) 0) 1,
        op 47 (.fieldAddr 1 (.tmp 14) 1) 1,
        op 48 (.lookup 0 (.tmp 14) (.global 47) false) 1,
        op 49 (.move (.tmp 2)) 1,
        op 50 (.binOp .mul 0 (.const (I 2)) (.global 49) 0) 1,
        op 51 (.binOp .add 0 (.global 48) (.global 50) 0) 1,
        op 52 (.build 0 #[(0, (.const (.agg #[(I 0), (I 0)]))), (1, (.global 46)), (1001, (.global 51))]) 1,
        op 53 (call (.func 451) #[(.tmp 5), (.global 52)]) 3,
        op 54 (.indexAddr 3 (.global 41) (.global 53)) 1,
        op 55 (.load 0 (.global 54)) 1,
        op 56 (.indexAddr 3 (.global 38) (.global 39)) 1,
        opn (.store 1 (.global 56) (.global 55))])))
    (reg [op 33 (.move (.tmp 13)) 1,
      op 34 (.binOp .add 0 (.global 33) (.const (I 1)) 0) 1,
      op 13 (.move (.global 34))]))))))
(.seq (reg [op 57 (.load 4 (.tmp 12)) 1,
  op 10 (.insert 3 (.tmp 10) (.tmp 10) (.global 57)),
  op 11 (.move (.const (I 0)))])
.ret)))))), [(10, 1000004), (11, 0)]⟩

/-- spec.DrawJoinBeside -/
def fn355 : AFun := ⟨1,
(.seq (reg [op 2 (.move (.const (.agg #[(I 0), (I 0), (sl 0 0 0 0)]))),
  op 3 (.move (.const (.agg #[(I 0), (I 0), (sl 0 0 0 0)])))])
(.seq (reg [op 9 (.move (.tmp 0)) 1,
  op 10 (call (.func 431) #[(.global 9)]) 1,
  op 4 (.move (.global 10))])
(.seq (reg [op 11 (.move (.tmp 4)) 1,
  op 12 (call (.func 443) #[(.global 11)]) 1,
  op 5 (.box 3 (.const (.agg #[(I 0), (I 0), (sl 0 0 0 0)]))),
  opn (.store 3 (.tmp 5) (.global 12))])
(.seq (reg [op 13 (.move (.tmp 4)) 1,
  op 14 (call (.func 443) #[(.global 13)]) 1,
  op 6 (.box 3 (.const (.agg #[(I 0), (I 0), (sl 0 0 0 0)]))),
  opn (.store 3 (.tmp 6) (.global 14))])
(.seq (.seq (reg [op 15 (call (.func 452) #[(.tmp 5)]) 1,
  op 16 (.move (.global 15)) 1,
  op 17 (call (.func 452) #[(.tmp 6)]) 1 (some (65, true)),
  op 18 (.pick (.global 16) (.global 17) (.const (B false))) 1,
  op 19 (.move (.global 18)) 1,
  op 20 (.move (.tmp 4)) 1 (some (77, true)),
  op 21 (call (.func 6) #[(.global 20), (.const (I 2))]) 1 (some (77, true)),
  op 22 (.pick (.global 19) (.global 21) (.const (B false)))])
(.cond (.tmp 22)
  (.seq (reg [op 23 (.move (.tmp 4)) 1,
    op 24 (call (.func 7) #[(.global 23), (.const (I 5))]) 1,
    op 25 (.binOp .add 0 (.const (I 1)) (.global 24) 0) 1,
    op 7 (.move (.global 25))])
  (.seq (reg [op 26 (.move (.tmp 7)) 1,
    op 27 (.fieldAddr 1 (.tmp 5) 0) 1,
    op 28 (.load 0 (.global 27)) 1,
    op 29 (call (.func 450) #[(.global 26), (.global 28)]) 1,
    op 8 (.box 3 (.const (.agg #[(I 0), (I 0), (sl 0 0 0 0)]))),
    opn (.store 3 (.tmp 8) (.global 29))])
  (.seq (reg [op 30 (.load 4 (.tmp 5)) 1,
    op 31 (.move (.tmp 4)) 1,
    op 32 (call (.func 555) #[(.global 31), (.tmp 8)]) 3,
    op 2 (.insert 3 (.tmp 2) (.tmp 2) (.global 30)),
    op 3 (.insert 3 (.tmp 3) (.tmp 3) (.global 32))])
  .ret)))
  .skip))
(.seq (reg [op 33 (.load 4 (.tmp 5)) 1,
  op 34 (.load 4 (.tmp 6)) 1,
  op 2 (.insert 3 (.tmp 2) (.tmp 2) (.global 33)),
  op 3 (.insert 3 (.tmp 3) (.tmp 3) (.global 34))])
.ret)))))), [(2, 1000004), (3, 1000004)]⟩

/-- impl.JoinBeside -/
def fn92 : AFun := ⟨2,
(.seq (reg [op 2 (.makeChan 3 (.tmp 0)),
  op 3 (.makeChan 3 (.tmp 1)),
  op 4 (.move (.const (.agg #[(I 0), (I 0), (sl 0 0 0 0)]))),
  op 5 (.move (.const (I 0)))])
(.seq (.seq (reg [op 8 (.lookup 4 (.tmp 2) (.tmp 2) false) 1,
  op 9 (call (.func 140) #[(.global 8)]) 1,
  op 10 (.unOp .not 0 (.global 9)) 1,
  op 11 (.move (.global 10)) 1,
  op 12 (.lookup 4 (.tmp 3) (.tmp 3) false) 1 (some (45, false)),
  op 13 (call (.func 140) #[(.global 12)]) 1 (some (45, false)),
  op 14 (.unOp .not 0 (.global 13)) 1 (some (45, false)),
  op 15 (.pick (.global 11) (.const (B true)) (.global 14))])
(.cond (.tmp 15)
  (.seq (reg [op 16 (.build 0 #[(0, (.const (.agg #[(I 0), (I 0), (sl 0 0 0 0)])))]) 1,
    op 4 (.insert 3 (.tmp 4) (.tmp 4) (.global 16)),
    op 5 (.move (.const (I 1)))])
  .ret)
  .skip))
(.seq (.seq (reg [op 17 (.fieldAddr 1 (.tmp 2) 1) 1,
  op 18 (.lookup 0 (.tmp 2) (.global 17) false) 1,
  op 19 (.fieldAddr 1 (.tmp 3) 1) 1,
  op 20 (.lookup 0 (.tmp 3) (.global 19) false) 1,
  op 21 (.binOp .neq 0 (.global 18) (.global 20) 0)])
(.cond (.tmp 21)
  (.seq (reg [op 22 (.build 0 #[(0, (.const (.agg #[(I 0), (I 0), (sl 0 0 0 0)])))]) 1,
    op 4 (.insert 3 (.tmp 4) (.tmp 4) (.global 22)),
    op 5 (.move (.const (I 6)))])
  .ret)
  .skip))
(.seq (.seq (reg [op 23 (.fieldAddr 0 (.tmp 2) 1) 1,
  op 24 (.lookup 0 (.tmp 2) (.global 23) false) 1,
  op 25 (.fieldAddr 0 (.tmp 3) 1) 1,
  op 26 (.lookup 0 (.tmp 3) (.global 25) false) 1,
  op 27 (.binOp .add 0 (.global 24) (.global 26) 0) 1,
  op 28 (.binOp .gtr 0 (.global 27) (.const (I 8)) 0)])
(.cond (.tmp 28)
  (.seq (reg [op 29 (.build 0 #[(0, (.const (.agg #[(I 0), (I 0), (sl 0 0 0 0)])))]) 1,
    op 4 (.insert 3 (.tmp 4) (.tmp 4) (.global 29)),
    op 5 (.move (.const (I 5)))])
  .ret)
  .skip))
(.seq (reg [op 30 (.fieldAddr 0 (.tmp 2) 1) 1,
  op 31 (.lookup 0 (.tmp 2) (.global 30) false) 1,
  op 32 (.fieldAddr 0 (.tmp 3) 1) 1,
  op 33 (.lookup 0 (.tmp 3) (.global 32) false) 1,
  op 34 (.binOp .add 0 (.global 31) (.global 33) 0) 1,
  op 35 (.fieldAddr 1 (.tmp 2) 1) 1,
  op 36 (.lookup 0 (.tmp 2) (.global 35) false) 1,
  op 37 (call (.func 177) #[(.global 34), (.global 36)]) 1,
  op 6 (.move (.const (.agg #[(I 0), (I 0), (sl 0 0 0 0)]))),
  op 6 (.insert 3 (.tmp 6) (.tmp 6) (.global 37))])
(.seq (.seq (reg [op 7 (.move (.const (I 1)))])
(.block 0
  (.loop
    (.seq (.seq (reg [op 38 (.move (.tmp 7)) 1,
      op 39 (.fieldAddr 1 (.tmp 2) 1) 1,
      op 40 (.lookup 0 (.tmp 2) (.global 39) false) 1,
      op 41 (.binOp .mul 0 (.const (I 2)) (.global 40) 0) 1,
      op 42 (.binOp .lss 0 (.global 38) (.global 41) 0)])
    (.cond (.tmp 42)
      .skip
      (.exit 0)))
    (.seq (.block 1
      (reg [op 45 (.fieldAddr 2 (.tmp 6) 1) 1,
        op 46 (.lookup 0 (.tmp 6) (.global 45) false) 1,
        op 47 (.lookup 4 (.tmp 6) (.tmp 6) false) 1,
        op 48 (.fieldAddr 0 (.tmp 2) 1) 1,
        op 49 (.lookup 0 (.tmp 2) (.global 48) false) 1,
        op 50 (.binOp .mul 0 (.const (I 2)) (.global 49) 0) 1,
        op 51 (.move (.tmp 7)) 1,
        op 52 (.build 0 #[(0, (.const (.agg #[(I 0), (I 0)]))), (1, (.global 50)), (1001, (.global 51))]) 1,
        op 53 (call (.func 40) #[(.global 47), (.global 52)]) 1,
        op 54 (.indexAddr 3 (.global 46) (.global 53)) 1,
        opn (.store 1 (.global 54) (.const (I 1)))]))
    (reg [op 43 (.move (.tmp 7)) 1,
      op 44 (.binOp .add 0 (.global 43) (.const (I 2)) 0) 1,
      op 7 (.move (.global 44))]))))))
(.seq (reg [op 55 (.lookup 4 (.tmp 6) (.tmp 6) false) 1,
  op 56 (.lookup 4 (.tmp 2) (.tmp 2) false) 1,
  op 57 (call (.func 46) #[(.global 55), (.const (I 0)), (.const (I 0)), (.global 56)]) 1])
(.seq (reg [op 58 (.lookup 4 (.tmp 6) (.tmp 6) false) 1,
  op 59 (.fieldAddr 0 (.tmp 2) 1) 1,
  op 60 (.lookup 0 (.tmp 2) (.global 59) false) 1,
  op 61 (.lookup 4 (.tmp 3) (.tmp 3) false) 1,
  op 62 (call (.func 46) #[(.global 58), (.global 60), (.const (I 0)), (.global 61)]) 1])
(.seq (reg [op 63 (.lookup 4 (.tmp 6) (.tmp 6) false) 1,
  op 4 (.insert 3 (.tmp 4) (.tmp 4) (.global 63)),
  op 5 (.move (.const (I 0)))])
.ret))))))))), [(4, 1000004), (5, 0)]⟩

/-- spec.JoinBeside -/
def fn384 : AFun := ⟨2,
(.seq (reg [op 2 (.box 3 (.tmp 0)),
  op 3 (.box 3 (.tmp 1)),
  op 4 (.move (.const (.agg #[(I 0), (I 0), (sl 0 0 0 0)]))),
  op 5 (.move (.const (I 0)))])
(.seq (.seq (reg [op 8 (call (.func 452) #[(.tmp 2)]) 1,
  op 9 (.unOp .not 0 (.global 8)) 1,
  op 10 (.move (.global 9)) 1,
  op 11 (call (.func 452) #[(.tmp 3)]) 1 (some (41, false)),
  op 12 (.unOp .not 0 (.global 11)) 1 (some (41, false)),
  op 13 (.pick (.global 10) (.const (B true)) (.global 12))])
(.cond (.tmp 13)
  (.seq (reg [op 14 (.build 0 #[(0, (.const (.agg #[(I 0), (I 0), (sl 0 0 0 0)])))]) 1,
    op 4 (.insert 3 (.tmp 4) (.tmp 4) (.global 14)),
    op 5 (.move (.const (I 1)))])
  .ret)
  .skip))
(.seq (.seq (reg [op 15 (.fieldAddr 1 (.tmp 2) 0) 1,
  op 16 (.load 0 (.global 15)) 1,
  op 17 (.fieldAddr 1 (.tmp 3) 0) 1,
  op 18 (.load 0 (.global 17)) 1,
  op 19 (.binOp .neq 0 (.global 16) (.global 18) 0)])
(.cond (.tmp 19)
  (.seq (reg [op 20 (.build 0 #[(0, (.const (.agg #[(I 0), (I 0), (sl 0 0 0 0)])))]) 1,
    op 4 (.insert 3 (.tmp 4) (.tmp 4) (.global 20)),
    op 5 (.move (.const (I 6)))])
  .ret)
  .skip))
(.seq (.seq (reg [op 21 (.fieldAddr 0 (.tmp 2) 0) 1,
  op 22 (.load 0 (.global 21)) 1,
  op 23 (.fieldAddr 0 (.tmp 3) 0) 1,
  op 24 (.load 0 (.global 23)) 1,
  op 25 (.binOp .add 0 (.global 22) (.global 24) 0) 1,
  op 26 (call (.func 457) #[(.global 25)]) 1,
  op 27 (.unOp .not 0 (.global 26))])
(.cond (.tmp 27)
  (.seq (reg [op 28 (.build 0 #[(0, (.const (.agg #[(I 0), (I 0), (sl 0 0 0 0)])))]) 1,
    op 4 (.insert 3 (.tmp 4) (.tmp 4) (.global 28)),
    op 5 (.move (.const (I 5)))])
  .ret)
  .skip))
(.seq (reg [op 29 (.fieldAddr 0 (.tmp 2) 0) 1,
  op 30 (.load 0 (.global 29)) 1,
  op 31 (.fieldAddr 0 (.tmp 3) 0) 1,
  op 32 (.load 0 (.global 31)) 1,
  op 33 (.binOp .add 0 (.global 30) (.global 32) 0) 1,
  op 34 (.fieldAddr 1 (.tmp 2) 0) 1,
  op 35 (.load 0 (.global 34)) 1,
  op 36 (call (.func 450) #[(.global 33), (.global 35)]) 1,
  op 6 (.box 3 (.const (.agg #[(I 0), (I 0), (sl 0 0 0 0)]))),
  opn (.store 3 (.tmp 6) (.global 36))])
(.seq (reg [op 37 (call (.func 551) #[(.tmp 6), (.const (I 0)), (.const (I 0)), (.tmp 2)]) 1])
(.seq (reg [op 38 (.fieldAddr 0 (.tmp 2) 0) 1,
  op 39 (.load 0 (.global 38)) 1,
  op 40 (call (.func 551) #[(.tmp 6), (.global 39), (.const (I 0)), (.tmp 3)]) 1])
(.seq (.seq (reg [op 7 (.move (.const (I 1)))])
(.block 0
  (.loop
    (.seq (.seq (reg [op 41 (.move (.tmp 7)) 1,
      op 42 (.fieldAddr 1 (.tmp 2) 0) 1,
      op 43 (.load 0 (.global 42)) 1,
      op 44 (.binOp .mul 0 (.const (I 2)) (.global 43) 0) 1,
      op 45 (.binOp .lss 0 (.global 41) (.global 44) 0)])
    (.cond (.tmp 45)
      .skip
      (.exit 0)))
    (.seq (.block 1
      (reg [op 48 (.fieldAddr 2 (.tmp 6) 0) 1,
        op 49 (.load 0 (.global 48)) 1,
        op 50 (.fieldAddr 0 (.tmp 2) 0) 1,
        op 51 (.load 0 (.global 50)) 1,
        op 52 (.binOp .mul 0 (.const (I 2)) (.global 51) 0) 1,
        op 53 (.move (.tmp 7)) 1,
        op 54 (.build 0 #[(0, (.const (.agg #[(I 0), (I 0)]))), (1, (.global 52)), (1001, (.global 53))]) 1,
        op 55 (call (.func 451) #[(.tmp 6), (.global 54)]) 3,
        op 56 (.indexAddr 3 (.global 49) (.global 55)) 1,
        opn (.store 1 (.global 56) (.const (I 1)))]))
    (reg [op 46 (.move (.tmp 7)) 1,
      op 47 (.binOp .add 0 (.global 46) (.const (I 2)) 0) 1,
      op 7 (.move (.global 47))]))))))
(.seq (reg [op 57 (.load 4 (.tmp 6)) 1,
  op 4 (.insert 3 (.tmp 4) (.tmp 4) (.global 57)),
  op 5 (.move (.const (I 0)))])
.ret))))))))), [(4, 1000004), (5, 0)]⟩

/-- laws.f6ints -/
def fn271 : AFun := ⟨2,
(.seq (reg [op 4 (.move (.const (B false)))])
(.seq (.seq (reg [op 6 (.move (.tmp 0)) 1,
  op 7 (bi .len #[(.global 6)] 1) 1,
  op 8 (.move (.tmp 1)) 1,
  op 9 (bi .len #[(.global 8)] 1) 1,
  op 10 (.binOp .neq 0 (.global 7) (.global 9) 0)])
(.cond (.tmp 10)
  (.seq (reg [op 4 (.move (.const (B false)))])
  .ret)
  .skip))
(.seq (.seq (reg [op 5 (.move (.const (I 0)))])
(.block 0
  (.loop
    (.seq (.seq (reg [op 11 (.move (.tmp 5)) 1,
      op 12 (.move (.tmp 0)) 1,
      op 13 (bi .len #[(.global 12)] 1) 1,
      op 14 (.binOp .lss 0 (.global 11) (.global 13) 0)])
    (.cond (.tmp 14)
      .skip
      (.exit 0)))
    (.seq (.block 1
      (.seq (reg [op 17 (.move (.tmp 0)) 1,
        op 18 (.move (.tmp 5)) 1,
        op 19 (.indexAddr 3 (.global 17) (.global 18)) 1,
        op 20 (.load 0 (.global 19)) 1,
        op 21 (.move (.tmp 1)) 1,
        op 22 (.move (.tmp 5)) 1,
        op 23 (.indexAddr 3 (.global 21) (.global 22)) 1,
        op 24 (.load 0 (.global 23)) 1,
        op 25 (.binOp .neq 0 (.global 20) (.global 24) 0)])
      (.cond (.tmp 25)
        (.seq (reg [op 4 (.move (.const (B false)))])
        .ret)
        .skip)))
    (reg [op 15 (.move (.tmp 5)) 1,
      op 16 (.binOp .add 0 (.global 15) (.const (I 1)) 0) 1,
      op 5 (.move (.global 16))]))))))
(.seq (reg [op 4 (.move (.const (B true)))])
.ret)))), [(4, 0)]⟩

/-- impl.CountCurves -/
def fn72 : AFun := ⟨1,
(.seq (reg [op 1 (.makeChan 3 (.tmp 0)),
  op 2 (.move (.const (I 0))),
  op 3 (.move (.const (I 0)))])
(.seq (.seq (reg [op 4 (.lookup 4 (.tmp 1) (.tmp 1) false) 1,
  op 5 (call (.func 140) #[(.global 4)]) 1,
  op 6 (.unOp .not 0 (.global 5))])
(.cond (.tmp 6)
  (.seq (reg [op 2 (.move (.const (I 0))),
    op 3 (.move (.const (I 1)))])
  .ret)
  .skip))
(.seq (reg [op 7 (.lookup 4 (.tmp 1) (.tmp 1) false) 1,
  op 8 (call (.func 154) #[(.global 7)]) 1,
  op 2 (.move (.global 8)),
  op 3 (.move (.const (I 0)))])
.ret))), [(2, 0), (3, 0)]⟩

/-- laws.szJournal -/
def fn291 : AFun := ⟨2,
(.seq (reg [op 2 (.makeChan 5 (.tmp 0)),
  op 4 (.move (.const (I 0)))])
(.seq (reg [op 5 (.fieldAddr 0 (.tmp 2) 1) 1,
  op 6 (.lookup 4 (.tmp 2) (.global 5) false) 1,
  op 7 (.move (.tmp 1)) 1,
  op 8 (call (.func 295) #[(.global 6), (.global 7)]) 1,
  op 1 (.move (.global 8))])
(.seq (.seq (reg [op 9 (.move (.tmp 1)) 1,
  op 10 (.binOp .lss 0 (.global 9) (.const (I 0)) 0)])
(.cond (.tmp 10)
  (.seq (reg [op 4 (.move (.const (I (-1))))])
  .ret)
  .skip))
(.seq (reg [op 11 (.fieldAddr 3 (.tmp 2) 1) 1,
  op 12 (.lookup 0 (.tmp 2) (.global 11) false) 1,
  op 13 (.move (.tmp 1)) 1,
  op 14 (call (.func 292) #[(.global 12), (.global 13)]) 1,
  op 1 (.move (.global 14))])
(.seq (.seq (reg [op 15 (.move (.tmp 1)) 1,
  op 16 (.binOp .lss 0 (.global 15) (.const (I 0)) 0)])
(.cond (.tmp 16)
  (.seq (reg [op 4 (.move (.const (I (-1))))])
  .ret)
  .skip))
(.seq (reg [op 17 (.fieldAddr 4 (.tmp 2) 1) 1,
  op 18 (.lookup 0 (.tmp 2) (.global 17) false) 1,
  op 19 (.move (.tmp 1)) 1,
  op 20 (call (.func 292) #[(.global 18), (.global 19)]) 1,
  op 1 (.move (.global 20))])
(.seq (.seq (reg [op 21 (.move (.tmp 1)) 1,
  op 22 (.binOp .lss 0 (.global 21) (.const (I 0)) 0)])
(.cond (.tmp 22)
  (.seq (reg [op 4 (.move (.const (I (-1))))])
  .ret)
  .skip))
(.seq (reg [op 23 (.move (.tmp 1)) 1,
  op 4 (.move (.global 23))])
.ret)))))))), [(4, 0)]⟩

/-- spec.CurvesAlong -/
def fn342 : AFun := ⟨1,
(.seq (reg [op 1 (.box 5 (.tmp 0)),
  op 2 (.move (.const (sl 0 0 0 0))),
  op 3 (.move (.const (I 0)))])
(.seq (.seq (reg [op 7 (call (.func 558) #[(.tmp 1)]) 1,
  op 8 (.unOp .not 0 (.global 7))])
(.cond (.tmp 8)
  (.seq (reg [op 2 (.move (.const (sl 0 0 0 0))),
    op 3 (.move (.const (I 1)))])
  .ret)
  .skip))
(.seq (reg [op 9 (call (.func 561) #[(.tmp 1)]) 1,
  op 4 (.box 3 (.const (.agg #[(I 0), (I 0), (sl 0 0 0 0)]))),
  opn (.store 3 (.tmp 4) (.global 9))])
(.seq (reg [op 10 (call (.func 465) #[(.tmp 4)]) 1,
  op 11 (.buildSlice 1 1 #[(0, (.const (.agg #[(I 0)]))), (1, (.global 10))]) 1,
  op 5 (.move (.global 11))])
(.seq (.seq (reg [op 6 (.move (.const (I 0)))])
(.block 0
  (.loop
    (.seq (.seq (reg [op 12 (.move (.tmp 6)) 1,
      op 13 (.fieldAddr 3 (.tmp 1) 0) 1,
      op 14 (.load 0 (.global 13)) 1,
      op 15 (bi .len #[(.global 14)] 1) 1,
      op 16 (.binOp .lss 0 (.global 12) (.global 15) 0)])
    (.cond (.tmp 16)
      .skip
      (.exit 0)))
    (.seq (.block 1
      (.seq (reg [op 19 (.fieldAddr 2 (.tmp 4) 0) 1,
        op 20 (.load 0 (.global 19)) 1,
        op 21 (.fieldAddr 3 (.tmp 1) 0) 1,
        op 22 (.load 0 (.global 21)) 1,
        op 23 (.move (.tmp 6)) 1,
        op 24 (.indexAddr 7 (.global 22) (.global 23)) 1,
        op 25 (.fieldAddr 0 (.global 24) 0) 1,
        op 26 (.load 0 (.global 25)) 1,
        op 27 (.fieldAddr 3 (.tmp 1) 0) 1,
        op 28 (.load 0 (.global 27)) 1,
        op 29 (.move (.tmp 6)) 1,
        op 30 (.indexAddr 7 (.global 28) (.global 29)) 1,
        op 31 (.fieldAddr 2 (.global 30) 0) 1,
        op 32 (.load 0 (.global 31)) 1,
        op 33 (.indexAddr 3 (.global 20) (.global 26)) 1,
        opn (.store 1 (.global 33) (.global 32))])
      (reg [op 34 (.move (.tmp 5)) 1,
        op 35 (call (.func 465) #[(.tmp 4)]) 1,
        op 36 (.buildSlice 1 1 #[(0, (.const (.agg #[(I 0)]))), (1, (.global 35))]) 1,
        op 37 (bi .append #[(.global 34), (.global 36)] 1) 1,
        op 5 (.move (.global 37))])))
    (reg [op 17 (.move (.tmp 6)) 1,
      op 18 (.binOp .add 0 (.global 17) (.const (I 1)) 0) 1,
      op 6 (.move (.global 18))]))))))
(.seq (reg [op 38 (.move (.tmp 5)) 1,
  op 2 (.move (.global 38)),
  op 3 (.move (.const (I 0)))])
.ret)))))), [(2, 0), (3, 0)]⟩

/-- laws.toJournal -/
def fn298 : AFun := ⟨1,
(.seq (reg [op 1 (.makeChan 5 (.tmp 0)),
  op 2 (.move (.const (.agg #[(I 0), (I 0), (sl 0 0 0 0), (sl 0 0 0 0), (sl 0 0 0 0)])))])
(.seq (reg [op 3 (.move (.const (.agg #[(I 0), (I 0), (sl 0 0 0 0), (sl 0 0 0 0), (sl 0 0 0 0)])))])
(.seq (reg [op 4 (.fieldAddr 0 (.tmp 1) 1) 1,
  op 5 (.lookup 4 (.tmp 1) (.global 4) false) 1,
  op 6 (call (.func 303) #[(.global 5)]) 1,
  op 7 (.fieldAddr 0 (.tmp 3) 1) 1,
  op 3 (.insert 3 (.tmp 3) (.global 7) (.global 6))])
(.seq (reg [op 8 (.fieldAddr 3 (.tmp 1) 1) 1,
  op 9 (.lookup 0 (.tmp 1) (.global 8) false) 1,
  op 10 (call (.func 300) #[(.global 9)]) 1,
  op 11 (.fieldAddr 3 (.tmp 3) 1) 1,
  op 3 (.insert 1 (.tmp 3) (.global 11) (.global 10))])
(.seq (reg [op 12 (.fieldAddr 4 (.tmp 1) 1) 1,
  op 13 (.lookup 0 (.tmp 1) (.global 12) false) 1,
  op 14 (call (.func 300) #[(.global 13)]) 1,
  op 15 (.fieldAddr 4 (.tmp 3) 1) 1,
  op 3 (.insert 1 (.tmp 3) (.global 15) (.global 14))])
(.seq (reg [op 16 (.lookup 6 (.tmp 3) (.tmp 3) false) 1,
  op 2 (.insert 5 (.tmp 2) (.tmp 2) (.global 16))])
.ret)))))), [(2, 1000006)]⟩

/-- laws.eqInt64S -/
def fn259 : AFun := ⟨2,
(.seq (reg [op 4 (.move (.const (B false)))])
(.seq (.seq (reg [op 6 (.move (.tmp 0)) 1,
  op 7 (bi .len #[(.global 6)] 1) 1,
  op 8 (.move (.tmp 1)) 1,
  op 9 (bi .len #[(.global 8)] 1) 1,
  op 10 (.binOp .neq 0 (.global 7) (.global 9) 0)])
(.cond (.tmp 10)
  (.seq (reg [op 4 (.move (.const (B false)))])
  .ret)
  .skip))
(.seq (.seq (reg [op 5 (.move (.const (I 0)))])
(.block 0
  (.loop
    (.seq (.seq (reg [op 11 (.move (.tmp 5)) 1,
      op 12 (.move (.tmp 0)) 1,
      op 13 (bi .len #[(.global 12)] 1) 1,
      op 14 (.binOp .lss 0 (.global 11) (.global 13) 0)])
    (.cond (.tmp 14)
      .skip
      (.exit 0)))
    (.seq (.block 1
      (.seq (reg [op 17 (.move (.tmp 0)) 1,
        op 18 (.move (.tmp 5)) 1,
        op 19 (.indexAddr 3 (.global 17) (.global 18)) 1,
        op 20 (.load 0 (.global 19)) 1,
        op 21 (.move (.tmp 1)) 1,
        op 22 (.move (.tmp 5)) 1,
        op 23 (.indexAddr 3 (.global 21) (.global 22)) 1,
        op 24 (.load 0 (.global 23)) 1,
        op 25 (.binOp .neq 0 (.global 20) (.global 24) 0)])
      (.cond (.tmp 25)
        (.seq (reg [op 4 (.move (.const (B false)))])
        .ret)
        .skip)))
    (reg [op 15 (.move (.tmp 5)) 1,
      op 16 (.binOp .add 0 (.global 15) (.const (I 1)) 0) 1,
      op 5 (.move (.global 16))]))))))
(.seq (reg [op 4 (.move (.const (B true)))])
.ret)))), [(4, 0)]⟩

/-- laws.eqJournal -/
def fn260 : AFun := ⟨2,
(.seq (reg [op 2 (.makeChan 5 (.tmp 0)),
  op 3 (.makeChan 5 (.tmp 1)),
  op 4 (.move (.const (B false)))])
(.seq (.seq (reg [op 5 (.fieldAddr 0 (.tmp 2) 1) 1,
  op 6 (.lookup 4 (.tmp 2) (.global 5) false) 1,
  op 7 (.fieldAddr 0 (.tmp 3) 1) 1,
  op 8 (.lookup 4 (.tmp 3) (.global 7) false) 1,
  op 9 (call (.func 265) #[(.global 6), (.global 8)]) 1,
  op 10 (.unOp .not 0 (.global 9))])
(.cond (.tmp 10)
  (.seq (reg [op 4 (.move (.const (B false)))])
  .ret)
  .skip))
(.seq (.seq (reg [op 11 (.fieldAddr 3 (.tmp 2) 1) 1,
  op 12 (.lookup 0 (.tmp 2) (.global 11) false) 1,
  op 13 (.fieldAddr 3 (.tmp 3) 1) 1,
  op 14 (.lookup 0 (.tmp 3) (.global 13) false) 1,
  op 15 (call (.func 262) #[(.global 12), (.global 14)]) 1,
  op 16 (.unOp .not 0 (.global 15))])
(.cond (.tmp 16)
  (.seq (reg [op 4 (.move (.const (B false)))])
  .ret)
  .skip))
(.seq (.seq (reg [op 17 (.fieldAddr 4 (.tmp 2) 1) 1,
  op 18 (.lookup 0 (.tmp 2) (.global 17) false) 1,
  op 19 (.fieldAddr 4 (.tmp 3) 1) 1,
  op 20 (.lookup 0 (.tmp 3) (.global 19) false) 1,
  op 21 (call (.func 262) #[(.global 18), (.global 20)]) 1,
  op 22 (.unOp .not 0 (.global 21))])
(.cond (.tmp 22)
  (.seq (reg [op 4 (.move (.const (B false)))])
  .ret)
  .skip))
(.seq (reg [op 4 (.move (.const (B true)))])
.ret))))), [(4, 0)]⟩

/-- laws.markJournal -/
def fn283 : AFun := ⟨2,
(.seq (reg [op 2 (.makeChan 5 (.tmp 0)),
  op 4 (.move (.const (I 0)))])
(.seq (reg [op 5 (.fieldAddr 0 (.tmp 2) 1) 1,
  op 6 (.lookup 4 (.tmp 2) (.global 5) false) 1,
  op 7 (.move (.tmp 1)) 1,
  op 8 (call (.func 286) #[(.global 6), (.global 7)]) 1,
  op 1 (.move (.global 8))])
(.seq (reg [op 9 (.fieldAddr 3 (.tmp 2) 1) 1,
  op 10 (.lookup 0 (.tmp 2) (.global 9) false) 1,
  op 11 (.move (.tmp 1)) 1,
  op 12 (call (.func 284) #[(.global 10), (.global 11)]) 1,
  op 1 (.move (.global 12))])
(.seq (reg [op 13 (.fieldAddr 4 (.tmp 2) 1) 1,
  op 14 (.lookup 0 (.tmp 2) (.global 13) false) 1,
  op 15 (.move (.tmp 1)) 1,
  op 16 (call (.func 284) #[(.global 14), (.global 15)]) 1,
  op 1 (.move (.global 16))])
(.seq (reg [op 17 (.move (.tmp 1)) 1,
  op 4 (.move (.global 17))])
.ret))))), [(4, 0)]⟩

/-- laws.markInt64S -/
def fn282 : AFun := ⟨2,
(.seq (reg [op 4 (.move (.const (I 0)))])
(.seq (.seq (reg [op 5 (.move (.const (I 0)))])
(.block 0
  (.loop
    (.seq (.seq (reg [op 6 (.move (.tmp 5)) 1,
      op 7 (.move (.tmp 0)) 1,
      op 8 (bi .len #[(.global 7)] 1) 1,
      op 9 (.binOp .lss 0 (.global 6) (.global 8) 0)])
    (.cond (.tmp 9)
      .skip
      (.exit 0)))
    (.seq (.block 1
      (.seq (reg [op 12 (.move (.tmp 0)) 1,
        op 13 (.move (.tmp 5)) 1,
        op 14 (.move (.tmp 1)) 1,
        op 15 (.indexAddr 3 (.global 12) (.global 13)) 1,
        opn (.store 1 (.global 15) (.global 14))])
      (reg [op 16 (.move (.tmp 1)) 1,
        op 17 (.binOp .add 0 (.global 16) (.const (I 1)) 0) 1,
        op 1 (.move (.global 17))])))
    (reg [op 10 (.move (.tmp 5)) 1,
      op 11 (.binOp .add 0 (.global 10) (.const (I 1)) 0) 1,
      op 5 (.move (.global 11))]))))))
(.seq (reg [op 18 (.move (.tmp 1)) 1,
  op 4 (.move (.global 18))])
.ret))), [(4, 0)]⟩

/-- laws.heldInt64S -/
def fn275 : AFun := ⟨2,
(.seq (reg [op 4 (.move (.const (I 0)))])
(.seq (.seq (reg [op 5 (.move (.const (I 0)))])
(.block 0
  (.loop
    (.seq (.seq (reg [op 6 (.move (.tmp 5)) 1,
      op 7 (.move (.tmp 0)) 1,
      op 8 (bi .len #[(.global 7)] 1) 1,
      op 9 (.binOp .lss 0 (.global 6) (.global 8) 0)])
    (.cond (.tmp 9)
      .skip
      (.exit 0)))
    (.seq (.block 1
      (.seq (.seq (reg [op 12 (.move (.tmp 0)) 1,
        op 13 (.move (.tmp 5)) 1,
        op 14 (.indexAddr 3 (.global 12) (.global 13)) 1,
        op 15 (.load 0 (.global 14)) 1,
        op 16 (.move (.tmp 1)) 1,
        op 17 (.binOp .neq 0 (.global 15) (.global 16) 0)])
      (.cond (.tmp 17)
        (.seq (reg [op 4 (.move (.const (I (-1))))])
        .ret)
        .skip))
      (reg [op 18 (.move (.tmp 1)) 1,
        op 19 (.binOp .add 0 (.global 18) (.const (I 1)) 0) 1,
        op 1 (.move (.global 19))])))
    (reg [op 10 (.move (.tmp 5)) 1,
      op 11 (.binOp .add 0 (.global 10) (.const (I 1)) 0) 1,
      op 5 (.move (.global 11))]))))))
(.seq (reg [op 20 (.move (.tmp 1)) 1,
  op 4 (.move (.global 20))])
.ret))), [(4, 0)]⟩

/-- spec.DrawRowsOf -/
def fn372 : AFun := ⟨1,
(.seq (reg [op 2 (.move (.const (I 0))),
  op 3 (.move (.const (sl 0 0 0 0)))])
(.seq (reg [op 4 (.move (.tmp 0)) 1,
  op 5 (call (.func 528) #[(.global 4)]) 1,
  op 6 (.extract (.global 5) 0) 1,
  op 7 (.extract (.global 5) 1) 1,
  op 2 (.move (.global 6)),
  op 3 (.move (.global 7))])
.ret)), [(2, 0), (3, 0)]⟩
end Am
